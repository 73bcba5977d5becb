/-
  The walk over plain data, and contracts of functions of the program and of its laws.
  Conditions: those that each theorem names.
-/
import Derived.Test.YtbccfiillleimaaGreatQ7
import Derived.Test.YtbccfiillleimaaGreatQ6
import Derived.Lib.Walk
import Derived.Lib.SliceRun
import Derived.Lib.AppendZeros
namespace Go.Proofs.YtbccfiillleimaaGreat
set_option linter.unusedSimpArgs false
set_option linter.unusedVariables false
set_option linter.unusedSectionVars false
set_option maxRecDepth 4000
open Go.RowKit
def runL : List (Bool × (List Str → Bool × List Str)) → List Str → Bool × List Str
 | [], E => (true, E)
 | (c, g) :: l, E => if c = true then (if (g E).1 = true then runL l (g E).2 else (false, (g E).2)) else (false, E)
def Tm.zero : Tm := .mk [] []
noncomputable def tstQ (f : Fm) (ts : List Tm) (i : Nat) (p : Ex) : Bool := (sbF f.var (ts.getD i Tm.zero) (f.parts.getD 0 (mkF 0 []))).2 && same (sbF f.var (ts.getD i Tm.zero) (f.parts.getD 0 (mkF 0 []))).1 p.form
noncomputable def tstN (f : Fm) (i : Nat) (p : Ex) : Bool := same (f.parts.getD i (mkF 0 [])) p.form
def sgn (f : Fm) (i : Nat) (pos : Bool) : Bool := pos != (f.op == 4 || (f.op == 7 && ((i : Int) == 0)))
noncomputable def nodeI : Ex → Bool → List Str → Bool × List Str := Ex.fold fun f ts ps rs pos E =>
 if isQ f.op = true then
  (if (termsI (.mk f ts ps) pos E).1 = true then runL ((ps.zip rs).mapIdx fun i q => (tstQ f ts i q.1, q.2 pos)) (termsI (.mk f ts ps) pos E).2 else (false, (termsI (.mk f ts ps) pos E).2))
 else if ts.length = 0 ∧ ps.length = f.parts.length then runL ((ps.zip rs).mapIdx fun i q => (tstN f i q.1, q.2 (sgn f i pos))) E
 else (false, E)
theorem zip_map {α β γ : Type} (f : α → β) (g : Nat → α × β → γ) (xs : List α) : (xs.zip (xs.map f)).mapIdx g = xs.mapIdx fun i x => g i (x, f x) := by
 have : xs.zip (xs.map f) = xs.map fun x => (x, f x) := by
  induction xs with
  | nil => rfl
  | cons x xs ih => rw [List.map_cons, List.zip_cons_cons, ih]; rfl
 rw [this]
 refine List.ext_getElem? fun i => ?_
 simp only [List.getElem?_mapIdx, List.getElem?_map, Option.map_map, Function.comp_def]
theorem nodeI_eq (e : Ex) (pos : Bool) (E : List Str) : nodeI e pos E = if isQ e.form.op = true then
  (if (termsI e pos E).1 = true then runL (e.parts.mapIdx fun i p => (tstQ e.form e.terms i p, nodeI p pos)) (termsI e pos E).2 else (false, (termsI e pos E).2))
 else if e.terms.length = 0 ∧ e.parts.length = e.form.parts.length then runL (e.parts.mapIdx fun i p => (tstN e.form i p, nodeI p (sgn e.form i pos))) E
 else (false, E) := by
 cases e with
 | mk f ts ps =>
  conv => lhs; unfold nodeI; rw [Ex.fold_eq]
  simp only [zip_map]
  rfl
theorem termsI_len (e : Ex) (pos : Bool) (E : List Str) : (termsI e pos E).2.length ≤ E.length + 1 := by
 unfold termsI
 split
 ·split
  ·split
   ·split
    ·simp
    ·exact Nat.le_succ _
   ·exact Nat.le_succ _
  ·exact Nat.le_succ _
 ·exact Nat.le_succ _
theorem runL_len (w : Nat → Nat) : ∀ (l : List (Bool × (List Str → Bool × List Str))) (j : Nat) (E : List Str), (∀ i (h : i < l.length) (E : List Str), (l[i].2 E).2.length ≤ E.length + w (j + i)) → (runL l E).2.length ≤ E.length + ((List.range l.length).map fun i => w (j + i)).sum
 | [], _, E, _ => by simp [runL]
 | (c, g) :: l, j, E, h => by
  have h0 := h 0 (by simp) E
  rw [Nat.add_zero] at h0
  have h0 : (g E).2.length ≤ E.length + w j := h0
  have ih := runL_len w l (j + 1) (g E).2 fun i hi E => by
   have := h (i + 1) (by simpa using hi) E
   rw [show j + 1 + i = j + (i + 1) by omega]
   simpa using this
  have e : ((List.range ((c, g) :: l).length).map fun i => w (j + i)).sum = w j + ((List.range l.length).map fun i => w (j + 1 + i)).sum := by
   rw [List.length_cons, List.range_succ_eq_map, List.map_cons, List.sum_cons, List.map_map]
   congr 2
   refine List.map_congr_left fun i _ => ?_
   show w (j + (i + 1)) = _
   rw [show j + (i + 1) = j + 1 + i by omega]
  rw [e]
  unfold runL
  split
  ·split
   ·omega
   ·show (g E).2.length ≤ _; omega
  ·show E.length ≤ _; omega
theorem range_sum (ps : List Ex) : ((List.range ps.length).map fun i => (ps.getD i (.mk (mkF 0 []) [] [])).nodes).sum = (ps.map Ex.nodes).sum := by
 congr 1
 refine List.ext_getElem (by simp) fun i h1 h2 => ?_
 have h2 : i < ps.length := by simpa using h2
 simp [List.getD, h2]
theorem nodeI_len : ∀ (e : Ex) (pos : Bool) (E : List Str), (nodeI e pos E).2.length ≤ E.length + e.nodes := ex_ind fun f ts ps ih pos E => by
 rw [nodeI_eq, Ex.nodes_eq]
 have hr := range_sum ps
 have key : ∀ (tst : Nat → Ex → Bool) (sg : Nat → Bool) (E : List Str), (runL (ps.mapIdx fun i p => (tst i p, nodeI p (sg i))) E).2.length ≤ E.length + (ps.map Ex.nodes).sum := fun tst sg E => by
  have := runL_len (fun i => (ps.getD i (.mk (mkF 0 []) [] [])).nodes) (ps.mapIdx fun i p => (tst i p, nodeI p (sg i))) 0 E fun i h E => by
   have hi : i < ps.length := by simpa using h
   have := ih ps[i] (List.getElem_mem hi) (sg i) E
   simp only [List.getElem_mapIdx, Nat.zero_add]
   rw [List.getD_eq_getElem?_getD, List.getElem?_eq_getElem hi]
   exact this
  simp only [List.length_mapIdx, Nat.zero_add] at this
  rw [hr] at this
  exact this
 show (if isQ f.op = true then (if (termsI (.mk f ts ps) pos E).1 = true then runL (ps.mapIdx fun i p => (tstQ f ts i p, nodeI p pos)) (termsI (.mk f ts ps) pos E).2 else (false, (termsI (.mk f ts ps) pos E).2)) else if ts.length = 0 ∧ ps.length = f.parts.length then runL (ps.mapIdx fun i p => (tstN f i p, nodeI p (sgn f i pos))) E else (false, E)).2.length ≤ E.length + (1 + (ps.map Ex.nodes).sum)
 have ht := termsI_len (.mk f ts ps) pos E
 split
 ·split
  ·have := key (fun i p => tstQ f ts i p) (fun _ => pos) (termsI (.mk f ts ps) pos E).2
   omega
  ·show (termsI (.mk f ts ps) pos E).2.length ≤ _; omega
 ·split
  ·have := key (fun i p => tstN f i p) (fun i => sgn f i pos) E
   omega
  ·show E.length ≤ _; omega
end Go.Proofs.YtbccfiillleimaaGreat
namespace Go.Proofs.YtbccfiillleimaaGreat
set_option linter.unusedSimpArgs false
set_option linter.unusedVariables false
set_option linter.unusedSectionVars false
set_option maxRecDepth 4000
open Go.RowKit
theorem mul_small {a b : Nat} (h : a + b ≤ 1048576) : a + (1 + a) * b ≤ 1099511627776 := by
 by_cases hb : b ≤ 524288
 ·have : (1 + a) * b ≤ 1048577 * 524288 := Nat.mul_le_mul (by omega) hb
  omega
 ·have : (1 + a) * b ≤ 524289 * 1048576 := Nat.mul_le_mul (by omega) (by omega)
  omega
theorem runL_at (l : List (Bool × (List Str → Bool × List Str))) (k : Nat) (h : k < l.length) (E : List Str) : runL (l.drop k) E = if l[k].1 = true then (if (l[k].2 E).1 = true then runL (l.drop (k + 1)) (l[k].2 E).2 else (false, (l[k].2 E).2)) else (false, E) := by
 rw [List.drop_eq_getElem_cons h]
 rfl
theorem getD_eq {α : Type} {xs : List α} {k : Nat} (h : k < xs.length) (d : α) : xs.getD k d = xs[k] := by rw [List.getD_eq_getElem?_getD, List.getElem?_eq_getElem h]; rfl
abbrev nodeP (p : Ex) (pos : Bool) (E : List Str) : Prop := PC Tryz.prog 146 [[(true, .sl 1 (E.map fun s => [.str s]))]] [.p 0, .d false (exD p), .d false (bD pos)] [[(true, .sl 1 ((nodeI p pos E).2.map fun s => [.str s]))]] [(true, bD (nodeI p pos E).1)]
theorem termsI_true {e : Ex} {pos : Bool} {E : List Str} (h : (termsI e pos E).1 = true) : e.parts.length = e.terms.length ∧ TOk e.terms := by
 unfold termsI at h
 split at h
 ·rename_i h0
  refine ⟨?_, dec_iff.1 h0⟩
  split at h
  ·split at h
   ·rename_i t ht
    split at h
    ·rw [ht]; exact of_decide_eq_true h
    ·cases h
   ·cases h
  ·exact of_decide_eq_true h
 ·cases h
theorem sbF_forms {n : Str} {t : Tm} {f : Fm} (h : (sbF n t f).2 = true) : (sbF n t f).1.forms = true := by
 unfold sbF at h ⊢
 split at h
 ·rename_i h0
  rw [if_pos h0]
  rw [Bool.and_eq_true] at h0
  exact gforms' h0.2
 ·cases h
set_option maxHeartbeats 4000000 in
theorem node_of (e : Ex) (he : e.wt ≤ 1048576) (hf : e.form.forms = true) (H : ∀ p ∈ e.parts, p.form.forms = true → ∀ pos E, E.length + p.nodes ≤ 4194304 → nodeP p pos E) (pos : Bool) (E : List Str) (hE : E.length + e.nodes ≤ 4194304) : nodeP e pos E := by
 have hv := nodeI_eq e pos E
 have hW := e.wt_eq
 have hTW : tmsW e.terms = e.terms.length + (e.terms.map Tm.wt).sum := rfl
 have hNe := e.nodes_eq
 have HQ := isQuantifier_c e.form.op
 unfold nodeP
 cases hq : isQ e.form.op
 ·rw [hq, if_neg (by simp)] at hv
  rw [hq] at HQ
  have hfl : e.form.parts.length ≤ 1048576 := by have := e.form.wt_eq; omega
  by_cases hc : e.terms.length = 0 ∧ e.parts.length = e.form.parts.length
  ·rw [if_pos hc] at hv
   obtain ⟨hc1, hc2⟩ := hc
   have hc3 : ((e.form.parts.length : Int) != (e.form.parts.length : Int)) = false := by simp
   have hps : ∀ x ∈ e.form.parts, x.forms = true := by
    rw [Fm.forms_eq, Bool.and_eq_true] at hf
    exact List.all_eq_true.1 hf.2
   simp only [exD, exC_eq]
   refine PC_of Tryz.call146 Tryz.func146 rfl (by kernel_rfl) (by simp only [List.length_cons, List.length_nil, Tryz.ntmps146]; omega) (by simp only [Tryz.ntmps146]; omega) rfl rfl (by simp [smallG, T.isPin, AF.ds, bxA]) (by simp [gFS, T.fs, T.flat, AF.ds, bxA]) rfl ?_
   simp -implicitDefEqProofs only [go_sem, Tryz.results146]
   refine callF (HQ) (by simp -implicitDefEqProofs only [go_sem, hc1, hc2, hc3]) ?_
   simp -implicitDefEqProofs only [go_sem, hc1, hc2, hc3]
   refine loop_rule (fun x : Nat × List Str => hd [(0, .one (.bx 1000000 0)), (1000000, .one (.bx 1000000 0)), (2, .one (.t (.bool pos))), (4, .one (.bx 4 0)), (7, .one (.bx 7 0)), (78, .one (.rn (exS e.parts))), (79, vI e.form.parts.length), (80, vI x.1)] [(1000000, [.ow 64 0]), (4, [.t (.int .i64 e.form.op), .t (.str e.form.atom.name), .rn (tmS e.form.atom.args), .t (.str e.form.var), .rn (fmS e.form.parts), .rn (tmS e.terms), .rn (exS e.parts)]), (7, [.t (.int .i64 e.form.op), .t (.str e.form.atom.name), .rn (tmS e.form.atom.args), .t (.str e.form.var), .rn (fmS e.form.parts)])] [(64, ⟨true, 1, x.2.map fun s => [.str s], 0, true⟩)]) (fun x => x.1 ≤ e.parts.length ∧ runL ((e.parts.mapIdx fun i p => (tstN e.form i p, nodeI p (sgn e.form i pos))).drop x.1) x.2 = nodeI e pos E ∧ x.2.length + dsum Ex.nodes e.parts x.1 ≤ E.length + e.nodes) (fun x => e.parts.length - x.1) (0, E) (weak_hd ?_) ⟨Nat.zero_le _, hv.symm, by rw [dsum_zero]; show E.length + _ ≤ _; omega⟩ ?_
   ·simp -implicitDefEqProofs only [go_sem]
   ·rintro ⟨k, E'⟩ ⟨hk, hr, hl⟩
    simp only at hk hr hl
    by_cases hlt : k < e.parts.length
    ·have hd := dsum_at Ex.nodes e.parts k hlt
     have hrk := runL_at (e.parts.mapIdx fun i p => (tstN e.form i p, nodeI p (sgn e.form i pos))) k (by simpa using hlt) E'
     rw [hr] at hrk
     simp only [List.getElem_mapIdx] at hrk
     have hkf : k < e.form.parts.length := by omega
     have htst : tstN e.form k e.parts[k] = same e.form.parts[k] e.parts[k].form := by
      unfold tstN
      rw [getD_eq hkf]
     rw [htst] at hrk
     have HSm := sameFormula_c e.form.parts[k] e.parts[k].form
     have HPo := polarity_c e.form k pos
     have hsg : (pos != (e.form.op == 4 || (e.form.op == 7 && ((k : Int) == 0)))) = sgn e.form k pos := rfl
     rw [hsg] at HPo
     simp only [fmD, fmC_eq e.form.parts[k], fmC_eq e.parts[k].form, fmC_eq e.form] at HSm HPo
     simp -implicitDefEqProofs only [go_sem, hkf, getD_at, hlt, exC_eq e.parts[k]]
     cases hsm : same e.form.parts[k] e.parts[k].form
     ·rw [hsm, if_neg (by simp)] at hrk
      rw [hsm] at HSm
      rw [hrk]
      refine drawn (by kernel_rfl) ?_
      simp -implicitDefEqProofs only [go_sem, hkf, getD_at, fmC_eq e.form.parts[k]]
      refine dCallF (HSm) (by simp -implicitDefEqProofs only [go_sem]) ?_
      simp -implicitDefEqProofs only [go_sem]
      kernel_rfl
     ·rw [hsm, if_pos rfl] at hrk
      rw [hsm] at HSm
      have hpf : e.parts[k].form.forms = true := by rw [← same_iff.1 hsm]; exact hps _ (List.getElem_mem hkf)
      have HC := H e.parts[k] (List.getElem_mem hlt) hpf (sgn e.form k pos) E' (by omega)
      have hnl := nodeI_len e.parts[k] (sgn e.form k pos) E'
      unfold nodeP at HC
      simp only [exD, exC_eq e.parts[k]] at HC
      generalize hN1 : (nodeI e.parts[k] (sgn e.form k pos) E').1 = b1 at HC hrk
      generalize hN2 : (nodeI e.parts[k] (sgn e.form k pos) E').2 = E2 at HC hrk hnl
      cases hb1 : b1
      ·rw [hb1, if_neg (by simp)] at hrk
       rw [hb1] at HC
       rw [hrk]
       refine drawn (by kernel_rfl) ?_
       simp -implicitDefEqProofs only [go_sem, hkf, getD_at, fmC_eq e.form.parts[k]]
       refine dCallF (HSm) (by simp -implicitDefEqProofs only [go_sem]) ?_
       simp -implicitDefEqProofs only [go_sem]
       refine gCallF (HPo) (by simp -implicitDefEqProofs only [go_sem]) ?_
       simp -implicitDefEqProofs only [go_sem]
       refine gCallT 1000000 (HC) rfl (by simp -implicitDefEqProofs only [go_sem, flR_strs]) (by simp -implicitDefEqProofs only [go_sem, flR_strs]) ?_
       simp -implicitDefEqProofs only [go_sem, flR_strs]
       kernel_rfl
      ·rw [hb1, if_pos rfl] at hrk
       rw [hb1] at HC
       refine drawn (by kernel_rfl) ?_
       simp -implicitDefEqProofs only [go_sem, hkf, getD_at, fmC_eq e.form.parts[k]]
       refine dCallF (HSm) (by simp -implicitDefEqProofs only [go_sem]) ?_
       simp -implicitDefEqProofs only [go_sem]
       refine gCallF (HPo) (by simp -implicitDefEqProofs only [go_sem]) ?_
       simp -implicitDefEqProofs only [go_sem]
       refine gCallT 1000000 (HC) rfl (by simp -implicitDefEqProofs only [go_sem, flR_strs]) (by simp -implicitDefEqProofs only [go_sem, flR_strs]) ?_
       simp -implicitDefEqProofs only [go_sem, flR_strs]
       refine ⟨by kernel_rfl, (k + 1, E2), ⟨hlt, hrk.symm, by simp only; omega⟩, by simp only; omega, weak_hd ?_⟩
       simp -implicitDefEqProofs only [go_sem]
       rw [wrap_s (by omega)]
    ·have hkf : ¬ k < e.form.parts.length := by omega
     simp -implicitDefEqProofs only [go_sem, hkf]
     rw [List.drop_of_length_le (by rw [List.length_mapIdx]; omega)] at hr
     exact Or.inl ⟨by rw [← hr]; rfl, Or.inl (by rw [← hr]; rfl)⟩
  ·rw [if_neg hc] at hv
   rw [hv]
   simp only [exD, exC_eq]
   by_cases hc1 : e.terms.length = 0
   ·have hc2 : ((e.parts.length : Int) != (e.form.parts.length : Int)) = true := by rw [bne_iff_ne]; omega
    refine PC_of Tryz.call146 Tryz.func146 rfl (by kernel_rfl) (by simp only [List.length_cons, List.length_nil, Tryz.ntmps146]; omega) (by simp only [Tryz.ntmps146]; omega) rfl rfl (by simp [smallG, T.isPin, AF.ds, bxA]) (by simp [gFS, T.fs, T.flat, AF.ds, bxA]) rfl ?_
    simp -implicitDefEqProofs only [go_sem, Tryz.results146]
    refine callF (HQ) (by simp -implicitDefEqProofs only [go_sem, hc1, hc2]) ?_
    simp -implicitDefEqProofs only [go_sem, hc1, hc2]
   ·have hc1' : (0 : Int) < (e.terms.length : Int) := by omega
    refine PC_of Tryz.call146 Tryz.func146 rfl (by kernel_rfl) (by simp only [List.length_cons, List.length_nil, Tryz.ntmps146]; omega) (by simp only [Tryz.ntmps146]; omega) rfl rfl (by simp [smallG, T.isPin, AF.ds, bxA]) (by simp [gFS, T.fs, T.flat, AF.ds, bxA]) rfl ?_
    simp -implicitDefEqProofs only [go_sem, Tryz.results146]
    refine callF (HQ) (by simp -implicitDefEqProofs only [go_sem, hc1']) ?_
    simp -implicitDefEqProofs only [go_sem, hc1']
 ·rw [hq, if_pos rfl] at hv
  rw [hq] at HQ
  obtain ⟨q, hp, hqf⟩ := q_parts hq hf
  have HT := terms_c e he pos E (by omega)
  have hTl := termsI_len e pos E
  cases ht : (termsI e pos E).1
  ·rw [ht, if_neg (by simp)] at hv
   rw [ht] at HT
   rw [hv]
   simp only [exD, exC_eq] at HT ⊢
   refine PC_of Tryz.call146 Tryz.func146 rfl (by kernel_rfl) (by simp only [List.length_cons, List.length_nil, Tryz.ntmps146]; omega) (by simp only [Tryz.ntmps146]; omega) rfl rfl (by simp [smallG, T.isPin, AF.ds, bxA]) (by simp [gFS, T.fs, T.flat, AF.ds, bxA]) rfl ?_
   simp -implicitDefEqProofs only [go_sem, Tryz.results146]
   refine callF (HQ) (by simp -implicitDefEqProofs only [go_sem]) ?_
   simp -implicitDefEqProofs only [go_sem]
   refine callT 1000000 (HT) rfl (by simp -implicitDefEqProofs only [go_sem, flR_strs, exC_eq e]) (by simp -implicitDefEqProofs only [go_sem, flR_strs, exC_eq e]) ?_
   simp -implicitDefEqProofs only [go_sem, flR_strs, exC_eq e]
  ·rw [ht, if_pos rfl] at hv
   rw [ht] at HT
   obtain ⟨hlen, _⟩ := termsI_true ht
   generalize hE1 : (termsI e pos E).2 = E1 at hv HT hTl
   simp only [exD, exC_eq] at HT ⊢
   refine PC_of Tryz.call146 Tryz.func146 rfl (by kernel_rfl) (by simp only [List.length_cons, List.length_nil, Tryz.ntmps146]; omega) (by simp only [Tryz.ntmps146]; omega) rfl rfl (by simp [smallG, T.isPin, AF.ds, bxA]) (by simp [gFS, T.fs, T.flat, AF.ds, bxA]) rfl ?_
   simp -implicitDefEqProofs only [go_sem, Tryz.results146]
   refine callF (HQ) (by simp -implicitDefEqProofs only [go_sem]) ?_
   simp -implicitDefEqProofs only [go_sem]
   refine callT 1000000 (HT) rfl (by simp -implicitDefEqProofs only [go_sem, flR_strs, exC_eq e]) (by simp -implicitDefEqProofs only [go_sem, flR_strs, exC_eq e]) ?_
   simp -implicitDefEqProofs only [go_sem, flR_strs, exC_eq e]
   refine loop_rule (fun x : Nat × List Str => hd [(0, .one (.bx 1000000 0)), (1000000, .one (.bx 1000000 0)), (2, .one (.t (.bool pos))), (4, .one (.bx 4 0)), (7, .one (.bx 7 0)), (25, .one (.rn (exS e.parts))), (26, vI e.parts.length), (27, vI x.1)] [(1000000, [.ow 64 0]), (4, [.t (.int .i64 e.form.op), .t (.str e.form.atom.name), .rn (tmS e.form.atom.args), .t (.str e.form.var), .rn (fmS e.form.parts), .rn (tmS e.terms), .rn (exS e.parts)]), (7, [.t (.int .i64 e.form.op), .t (.str e.form.atom.name), .rn (tmS e.form.atom.args), .t (.str e.form.var), .rn (fmS e.form.parts)])] [(64, ⟨true, 1, x.2.map fun s => [.str s], 0, true⟩)]) (fun x => x.1 ≤ e.parts.length ∧ runL ((e.parts.mapIdx fun i p => (tstQ e.form e.terms i p, nodeI p pos)).drop x.1) x.2 = nodeI e pos E ∧ x.2.length + dsum Ex.nodes e.parts x.1 ≤ E.length + e.nodes) (fun x => e.parts.length - x.1) (0, E1) (weak_hd ?_) ⟨Nat.zero_le _, hv.symm, by rw [dsum_zero]; show E1.length + _ ≤ _; omega⟩ ?_
   ·simp -implicitDefEqProofs only [go_sem]
   ·rintro ⟨k, E'⟩ ⟨hk, hr, hl⟩
    simp only at hk hr hl
    by_cases hlt : k < e.parts.length
    ·have hd := dsum_at Ex.nodes e.parts k hlt
     have hrk := runL_at (e.parts.mapIdx fun i p => (tstQ e.form e.terms i p, nodeI p pos)) k (by simpa using hlt) E'
     rw [hr] at hrk
     simp only [List.getElem_mapIdx] at hrk
     have hkt : k < e.terms.length := by omega
     have hform : e.parts[k].form.wt ≤ e.wt := Nat.le_trans (form_wt _) (eparts_wt (List.getElem_mem hlt))
     have htw : e.terms[k].wt + e.form.wt ≤ 1048576 := by have := mem_sum Tm.wt e.terms _ (List.getElem_mem hkt); omega
     have hqw : q.wt ≤ e.form.wt := fparts_wt (by rw [hp]; simp)
     have HSb := SubstituteFormula_c q e.form.var e.terms[k] (by omega) (by omega) (mul_small (by omega))
     have htst : tstQ e.form e.terms k e.parts[k] = ((sbF e.form.var e.terms[k] q).2 && same (sbF e.form.var e.terms[k] q).1 e.parts[k].form) := by
      unfold tstQ
      rw [getD_eq hkt, hp]; rfl
     rw [htst] at hrk
     have hsf : (sbF e.form.var e.terms[k] q).2 = true → (sbF e.form.var e.terms[k] q).1.forms = true := sbF_forms
     generalize (sbF e.form.var e.terms[k] q).1 = R at HSb hrk hsf
     generalize (sbF e.form.var e.terms[k] q).2 = ok at HSb hrk hsf
     have HSm := sameFormula_c R e.parts[k].form
     simp only [fmD, tmD, fmC_eq q, tmC_eq e.terms[k], fmC_eq R, fmC_eq e.parts[k].form] at HSb HSm
     have e0 : (List.map fmC e.form.parts).getD 0 [] = fmC q := by rw [hp]; rfl
     have hp0 : e.form.parts.length = 1 := by rw [hp]; rfl
     simp -implicitDefEqProofs only [go_sem, hlt, getD_at, exC_eq e.parts[k]]
     refine drawn (by kernel_rfl) ?_
     simp -implicitDefEqProofs only [go_sem, hp0, e0, fmC_eq q, getD_at, hkt, tmC_eq e.terms[k]]
     refine dCallF (HSb) (by simp -implicitDefEqProofs only [go_sem]) ?_
     simp -implicitDefEqProofs only [go_sem]
     refine ⟨by kernel_rfl, ?_⟩
     cases hok : ok
     ·rw [hok, Bool.false_and, if_neg (by simp)] at hrk
      rw [hrk]
      simp -implicitDefEqProofs only [go_sem, hok]
     ·rw [hok, Bool.true_and] at hrk
      cases hsm : same R e.parts[k].form
      ·rw [hsm, if_neg (by simp)] at hrk
       rw [hsm] at HSm
       rw [hrk]
       simp -implicitDefEqProofs only [go_sem, hok]
       refine callF (HSm) (by simp -implicitDefEqProofs only [go_sem]) ?_
       simp -implicitDefEqProofs only [go_sem]
      ·rw [hsm, if_pos rfl] at hrk
       rw [hsm] at HSm
       have hpf : e.parts[k].form.forms = true := by rw [← same_iff.1 hsm]; exact hsf hok
       have HC := H e.parts[k] (List.getElem_mem hlt) hpf pos E' (by omega)
       have hnl := nodeI_len e.parts[k] pos E'
       unfold nodeP at HC
       simp only [exD, exC_eq e.parts[k]] at HC
       generalize hN1 : (nodeI e.parts[k] pos E').1 = b1 at HC hrk
       generalize hN2 : (nodeI e.parts[k] pos E').2 = E2 at HC hrk hnl
       cases hb1 : b1
       ·rw [hb1, if_neg (by simp)] at hrk
        rw [hb1] at HC
        rw [hrk]
        simp -implicitDefEqProofs only [go_sem, hok]
        refine callF (HSm) (by simp -implicitDefEqProofs only [go_sem]) ?_
        simp -implicitDefEqProofs only [go_sem]
        refine callT 1000000 (HC) rfl (by simp -implicitDefEqProofs only [go_sem, flR_strs]) (by simp -implicitDefEqProofs only [go_sem, flR_strs]) ?_
        simp -implicitDefEqProofs only [go_sem, flR_strs]
       ·rw [hb1, if_pos rfl] at hrk
        rw [hb1] at HC
        simp -implicitDefEqProofs only [go_sem, hok]
        refine callF (HSm) (by simp -implicitDefEqProofs only [go_sem]) ?_
        simp -implicitDefEqProofs only [go_sem]
        refine callT 1000000 (HC) rfl (by simp -implicitDefEqProofs only [go_sem, flR_strs]) (by simp -implicitDefEqProofs only [go_sem, flR_strs]) ?_
        simp -implicitDefEqProofs only [go_sem, flR_strs]
        refine ⟨(k + 1, E2), ⟨hlt, hrk.symm, by simp only; omega⟩, by simp only; omega, weak_hd ?_⟩
        simp -implicitDefEqProofs only [go_sem]
        rw [wrap_s (by omega)]
        trace_state
    ·simp -implicitDefEqProofs only [go_sem, hlt]
     rw [List.drop_of_length_le (by rw [List.length_mapIdx]; omega)] at hr
     exact Or.inl ⟨by rw [← hr]; rfl, Or.inl (by rw [← hr]; rfl)⟩
theorem node_c : ∀ e : Ex, e.wt ≤ 1048576 → e.form.forms = true → ∀ pos E, E.length + e.nodes ≤ 4194304 → nodeP e pos E :=
 ex_ind fun f ts ps ih he hf pos E hE => node_of (.mk f ts ps) he hf (fun p hp hpf pos E hE => ih p hp (Nat.le_trans (eparts_wt (a := .mk f ts ps) hp) he) hpf pos E hE) pos E hE
end Go.Proofs.YtbccfiillleimaaGreat
namespace Go.Proofs.YtbccfiillleimaaGreat
set_option linter.unusedSimpArgs false
set_option linter.unusedVariables false
set_option linter.unusedSectionVars false
set_option maxRecDepth 4000
open Go.RowKit
theorem put_forms (n : Str) (t : Tm) : ∀ f : Fm, f.forms = true → (putF n t f).2 = true → (putF n t f).1.forms = true := fm_ind fun o a v ps ih hf h => by
 have hP := putF_eq n t (.mk o a v ps)
 have hf0 := hf
 rw [Fm.forms_eq, Bool.and_eq_true] at hf0
 obtain ⟨hh, hps⟩ := hf0
 have hps : ∀ x ∈ ps, x.forms = true := List.all_eq_true.1 hps
 cases h3 : o == 3
 ·have ha : a = .mk [] [] := here_none hh h3
  rw [hP] at h ⊢
  change (if (o == 3) = true then _ else if (isQ o && _) = true then _ else if (isQ o && _) = true then _ else (Fm.mk o (.mk [] []) v ((ps.takeWhile fun x => (putF n t x).2).map fun x => (putF n t x).1), ps.all fun x => (putF n t x).2) : Fm × Bool).2 = true at h
  change (if (o == 3) = true then _ else if (isQ o && _) = true then _ else if (isQ o && _) = true then _ else (Fm.mk o (.mk [] []) v ((ps.takeWhile fun x => (putF n t x).2).map fun x => (putF n t x).1), ps.all fun x => (putF n t x).2) : Fm × Bool).1.forms = true
  rw [h3, if_neg (by simp)] at h ⊢
  split
  ·exact hf
  ·rename_i h1
   rw [if_neg h1] at h
   split
   ·rename_i h2
    rw [if_pos h2] at h; cases h
   ·rename_i h2
    rw [if_neg h2] at h
    have h1 : (ps.all fun x => (putF n t x).2) = true := h
    have hA := List.all_eq_true.1 h1
    have hw : (ps.takeWhile fun x => (putF n t x).2) = ps := by
     have := (takeW_at (l := ps) (p := fun x => (putF n t x).2) (k := ps.length) (Nat.le_refl _) (by rw [List.take_length]; exact hA) fun h => absurd h (Nat.lt_irrefl _)).1
     rw [this, List.take_length]
    rw [hw, ← ha]
    show (Fm.mk o a v (ps.map fun x => (putF n t x).1)).forms = true
    rw [forms_mk, Bool.and_eq_true]
    refine ⟨here_same (f := .mk o a v ps) hh h3 (by show (ps.map _).length = ps.length; rw [List.length_map]), List.all_eq_true.2 fun y hy => ?_⟩
    obtain ⟨x, hx, rfl⟩ := List.mem_map.1 hy
    exact ih x hx (hps x hx) (hA x hx)
 ·have ho3 : o = 3 := by simpa using h3
  rw [hP] at h ⊢
  change (if (o == 3) = true then (Fm.mk o (putT (bnd n t) a) v [], (putT (bnd n t) a).atomOk) else _ : Fm × Bool).2 = true at h
  change (if (o == 3) = true then (Fm.mk o (putT (bnd n t) a) v [], (putT (bnd n t) a).atomOk) else _ : Fm × Bool).1.forms = true
  rw [h3, if_pos rfl] at h ⊢
  have h9 : (putT (bnd n t) a).atomOk = true := h
  show (Fm.mk o (putT (bnd n t) a) v []).forms = true
  rw [forms_mk, Bool.and_eq_true]
  refine ⟨?_, rfl⟩
  subst ho3
  unfold Fm.here at hh ⊢
  change (decide (ps.length = 0) && a.atomOk && (v == [])) = true at hh
  change (decide (([] : List Fm).length = 0) && (putT (bnd n t) a).atomOk && (v == [])) = true
  simp only [Bool.and_eq_true] at hh
  rw [h9, hh.2]; rfl
noncomputable def tstS (f : Fm) (ts : List Tm) (i : Nat) (p : Ex) : Bool := (ts.getD i Tm.zero).good && !((ts.take i).any fun a => same a (ts.getD i Tm.zero)) && (putF f.var (ts.getD i Tm.zero) (f.parts.getD 0 (mkF 0 []))).2 && same p.form (putF f.var (ts.getD i Tm.zero) (f.parts.getD 0 (mkF 0 []))).1
def strongE (f : Fm) (pos : Bool) : Bool := isQ f.op && ((f.op == 8) == pos)
noncomputable def nodeS : Ex → Bool → Bool := Ex.fold fun f ts ps rs pos =>
 if isQ f.op = true then decide (ts.length = ps.length) && (!strongE f pos || (decide (ts.length = 1) && varOk (ts.getD 0 Tm.zero).name)) && ((ps.zip rs).mapIdx fun i q => (tstS f ts i q.1 && q.2 pos)).all id
 else decide (ts.length = 0) && decide (ps.length = f.parts.length) && ((ps.zip rs).mapIdx fun i q => (same q.1.form (f.parts.getD i (mkF 0 [])) && q.2 (sgn f i pos))).all id
theorem nodeS_eq (e : Ex) (pos : Bool) : nodeS e pos = if isQ e.form.op = true then decide (e.terms.length = e.parts.length) && (!strongE e.form pos || (decide (e.terms.length = 1) && varOk (e.terms.getD 0 Tm.zero).name)) && (e.parts.mapIdx fun i p => (tstS e.form e.terms i p && nodeS p pos)).all id
 else decide (e.terms.length = 0) && decide (e.parts.length = e.form.parts.length) && (e.parts.mapIdx fun i p => (same p.form (e.form.parts.getD i (mkF 0 [])) && nodeS p (sgn e.form i pos))).all id := by
 cases e with
 | mk f ts ps =>
  conv => lhs; unfold nodeS; rw [Ex.fold_eq]
  simp only [zip_map]
  rfl
theorem all_no {L : List Bool} {k : Nat} (h : k < L.length) (hf : L[k] = false) : L.all id = false := by
 rw [List.all_eq_false]; exact ⟨_, List.getElem_mem h, by simp [hf]⟩
theorem all_yes {L : List Bool} (h : ∀ k (h : k < L.length), L[k] = true) : L.all id = true := by
 rw [List.all_eq_true]; intro x hx; obtain ⟨k, hk, rfl⟩ := List.getElem_of_mem hx; exact h k hk
theorem all_step {L : List Bool} {k : Nat} (hT : ∀ j, j < k → ∀ h : j < L.length, L[j] = true) {hk : k < L.length} (h1 : L[k] = true) : ∀ j, j < k + 1 → ∀ h : j < L.length, L[j] = true := fun j hj h => by
 by_cases e : j = k
 ·subst e; exact h1
 ·exact hT j (by omega) h
end Go.Proofs.YtbccfiillleimaaGreat
namespace Go.Proofs.YtbccfiillleimaaGreat
set_option linter.unusedSimpArgs false
set_option linter.unusedVariables false
set_option linter.unusedSectionVars false
set_option maxRecDepth 4000
open Go.RowKit
abbrev nodeSP (p : Ex) (pos : Bool) : Prop := FC Tryz.prog 137 [exD p, bD pos] [bD (nodeS p pos)]
set_option maxHeartbeats 4000000 in
theorem l17Node_of (e : Ex) (he : e.wt ≤ 1048576) (hf : e.form.forms = true) (H : ∀ p ∈ e.parts, p.form.forms = true → ∀ pos, nodeSP p pos) (pos : Bool) : nodeSP e pos := by
 have hv := nodeS_eq e pos
 have hW := e.wt_eq
 have hTW : tmsW e.terms = e.terms.length + (e.terms.map Tm.wt).sum := rfl
 have HQ := l17Quantifier_c e.form
 have hfl : e.form.parts.length ≤ 1048576 := by have := e.form.wt_eq; omega
 unfold nodeSP
 cases hq : isQ e.form.op
 ·rw [hq, if_neg (by simp)] at hv
  rw [hq] at HQ
  by_cases hc1 : e.terms.length = 0
  ·by_cases hc2 : e.parts.length = e.form.parts.length
   ·rw [show decide (e.terms.length = 0) = true by simp [hc1], show decide (e.parts.length = e.form.parts.length) = true by simp [hc2], Bool.true_and, Bool.true_and] at hv
    have hc3 : ((e.form.parts.length : Int) != (e.form.parts.length : Int)) = false := by simp
    have hps : ∀ x ∈ e.form.parts, x.forms = true := by
     rw [Fm.forms_eq, Bool.and_eq_true] at hf
     exact List.all_eq_true.1 hf.2
    generalize hL : (e.parts.mapIdx fun i p => (same p.form (e.form.parts.getD i (mkF 0 [])) && nodeS p (sgn e.form i pos))) = L at hv
    have hLl : L.length = e.parts.length := by rw [← hL, List.length_mapIdx]
    simp only [exD, exC_eq, fmD, fmC_eq e.form] at HQ ⊢
    refine FC_of Tryz.call137 Tryz.func137 rfl (by kernel_rfl) (by simp only [rd, List.map_cons, List.map_nil, List.length_cons, List.length_nil, Tryz.ntmps137]; omega) ?_
    simp -implicitDefEqProofs only [go_sem, Tryz.results137]
    refine callF (HQ) (by simp -implicitDefEqProofs only [go_sem, hc1, hc2, hc3]) ?_
    simp -implicitDefEqProofs only [go_sem, hc1, hc2, hc3]
    refine loop_rule (fun k : Nat => hd [(1, vT (.bool pos)), (2, .one (.bx 2 0)), (5, .one (.bx 5 0)), (6, vI k)] [(2, [.t (.int .i64 e.form.op), .t (.str e.form.atom.name), .t (tmS e.form.atom.args), .t (.str e.form.var), .t (fmS e.form.parts), .t (tmS e.terms), .t (exS e.parts)]), (5, [.t (.int .i64 e.form.op), .t (.str e.form.atom.name), .t (tmS e.form.atom.args), .t (.str e.form.var), .t (fmS e.form.parts)])] []) (fun k => k ≤ e.parts.length ∧ ∀ j, j < k → ∀ h : j < L.length, L[j] = true) (fun k => e.parts.length - k) 0 (weak_hd ?_) ⟨Nat.zero_le _, fun j hj => by omega⟩ ?_
    ·simp -implicitDefEqProofs only [go_sem]
    ·rintro k ⟨hk, hT⟩
     by_cases hlt : k < e.parts.length
     ·have hkf : k < e.form.parts.length := by omega
      have hkL : k < L.length := by omega
      have hLk : L[k] = (same e.parts[k].form e.form.parts[k] && nodeS e.parts[k] (sgn e.form k pos)) := by
       simp only [← hL, List.getElem_mapIdx]
       rw [getD_eq hkf]
      have HSm := l8Same_c e.parts[k].form e.form.parts[k]
      have HPo := l17Sign_c e.form k pos
      have hsg : (pos != (e.form.op == 4 || (e.form.op == 7 && ((k : Int) == 0)))) = sgn e.form k pos := rfl
      rw [hsg] at HPo
      simp only [fmD, fmC_eq e.form.parts[k], fmC_eq e.parts[k].form, fmC_eq e.form] at HSm HPo
      cases hsm : same e.parts[k].form e.form.parts[k]
      ·rw [hsm, Bool.false_and] at hLk
       rw [hsm] at HSm
       rw [hv, all_no hkL hLk]
       simp -implicitDefEqProofs only [go_sem, hc2, hkf]
       refine drawn (by kernel_rfl) ?_
       simp -implicitDefEqProofs only [go_sem, hlt, hkf, getD_at, fmC_eq e.form.parts[k], exC_eq e.parts[k]]
       refine dCallF (HSm) (by simp -implicitDefEqProofs only [go_sem]) ?_
       simp -implicitDefEqProofs only [go_sem]
       kernel_rfl
      ·rw [hsm, Bool.true_and] at hLk
       rw [hsm] at HSm
       have hpf : e.parts[k].form.forms = true := by rw [same_iff.1 hsm]; exact hps _ (List.getElem_mem hkf)
       have HC := H e.parts[k] (List.getElem_mem hlt) hpf (sgn e.form k pos)
       unfold nodeSP at HC
       simp only [exD, exC_eq e.parts[k]] at HC
       cases hb : nodeS e.parts[k] (sgn e.form k pos)
       ·rw [hb] at hLk HC
        rw [hv, all_no hkL hLk]
        simp -implicitDefEqProofs only [go_sem, hc2, hkf]
        refine drawn (by kernel_rfl) ?_
        simp -implicitDefEqProofs only [go_sem, hlt, hkf, getD_at, fmC_eq e.form.parts[k], exC_eq e.parts[k]]
        refine dCallF (HSm) (by simp -implicitDefEqProofs only [go_sem, hlt, hkf, hc2, getD_at, exC_eq e.parts[k]]) ?_
        simp -implicitDefEqProofs only [go_sem, hlt, hkf, hc2, getD_at, exC_eq e.parts[k]]
        refine gCallF (HPo) (by simp -implicitDefEqProofs only [go_sem]) ?_
        simp -implicitDefEqProofs only [go_sem]
        refine gCallF (HC) (by simp -implicitDefEqProofs only [go_sem]) ?_
        simp -implicitDefEqProofs only [go_sem]
        kernel_rfl
       ·rw [hb] at hLk HC
        simp -implicitDefEqProofs only [go_sem, hc2, hkf]
        refine drawn (by kernel_rfl) ?_
        simp -implicitDefEqProofs only [go_sem, hlt, hkf, getD_at, fmC_eq e.form.parts[k], exC_eq e.parts[k]]
        refine dCallF (HSm) (by simp -implicitDefEqProofs only [go_sem, hlt, hkf, hc2, getD_at, exC_eq e.parts[k]]) ?_
        simp -implicitDefEqProofs only [go_sem, hlt, hkf, hc2, getD_at, exC_eq e.parts[k]]
        refine gCallF (HPo) (by simp -implicitDefEqProofs only [go_sem]) ?_
        simp -implicitDefEqProofs only [go_sem]
        refine gCallF (HC) (by simp -implicitDefEqProofs only [go_sem]) ?_
        simp -implicitDefEqProofs only [go_sem]
        refine ⟨by kernel_rfl, k + 1, ⟨by omega, all_step hT hLk⟩, by omega, weak_hd ?_⟩
        simp -implicitDefEqProofs only [go_sem]
        rw [wrap_s (by omega)]
     ·have hkf : ¬ k < e.form.parts.length := by omega
      rw [hv, all_yes fun j hj => hT j (by omega) hj]
      simp -implicitDefEqProofs only [go_sem, hc2, hkf]
   ·rw [show decide (e.parts.length = e.form.parts.length) = false by simp [hc2], Bool.and_false, Bool.false_and] at hv
    rw [hv]
    have hc3 : ((e.parts.length : Int) != (e.form.parts.length : Int)) = true := by rw [bne_iff_ne]; omega
    simp only [exD, exC_eq, fmD, fmC_eq e.form] at HQ ⊢
    refine FC_of Tryz.call137 Tryz.func137 rfl (by kernel_rfl) (by simp only [rd, List.map_cons, List.map_nil, List.length_cons, List.length_nil, Tryz.ntmps137]; omega) ?_
    simp -implicitDefEqProofs only [go_sem, Tryz.results137]
    refine callF (HQ) (by simp -implicitDefEqProofs only [go_sem, hc1, hc3]) ?_
    simp -implicitDefEqProofs only [go_sem, hc1, hc3]
  ·rw [show decide (e.terms.length = 0) = false by simp [hc1], Bool.false_and, Bool.false_and] at hv
   rw [hv]
   have hc1' : (0 : Int) < (e.terms.length : Int) := by omega
   simp only [exD, exC_eq, fmD, fmC_eq e.form] at HQ ⊢
   refine FC_of Tryz.call137 Tryz.func137 rfl (by kernel_rfl) (by simp only [rd, List.map_cons, List.map_nil, List.length_cons, List.length_nil, Tryz.ntmps137]; omega) ?_
   simp -implicitDefEqProofs only [go_sem, Tryz.results137]
   refine callF (HQ) (by simp -implicitDefEqProofs only [go_sem, hc1']) ?_
   simp -implicitDefEqProofs only [go_sem, hc1']
 ·rw [hq, if_pos rfl] at hv
  rw [hq] at HQ
  obtain ⟨q, hp, hqf⟩ := q_parts hq hf
  have HSt := l17Strong_c e.form pos
  have hse : strongE e.form pos = ((e.form.op == 8) == pos) := by unfold strongE; rw [hq, Bool.true_and]
  rw [hq, Bool.true_and, ← hse] at HSt
  by_cases hlen : e.terms.length = e.parts.length
  ·rw [show decide (e.terms.length = e.parts.length) = true by simp [hlen], Bool.true_and] at hv
   have hne : ((e.terms.length : Int) != (e.parts.length : Int)) = false := by rw [hlen]; simp
   generalize hL : (e.parts.mapIdx fun i p => (tstS e.form e.terms i p && nodeS p pos)) = L at hv
   have hLl : L.length = e.parts.length := by rw [← hL, List.length_mapIdx]
   simp only [exD, exC_eq, fmD, fmC_eq e.form] at HQ HSt ⊢
   cases hst : strongE e.form pos
   ·rw [hst] at hv HSt
    simp only [Bool.not_false, Bool.true_or, Bool.true_and] at hv
    refine FC_of Tryz.call137 Tryz.func137 rfl (by kernel_rfl) (by simp only [rd, List.map_cons, List.map_nil, List.length_cons, List.length_nil, Tryz.ntmps137]; omega) ?_
    simp -implicitDefEqProofs only [go_sem, Tryz.results137]
    refine callF (HQ) (by simp -implicitDefEqProofs only [go_sem, hne]) ?_
    simp -implicitDefEqProofs only [go_sem, hne]
    refine callF (HSt) (by simp -implicitDefEqProofs only [go_sem]) ?_
    simp -implicitDefEqProofs only [go_sem]
    refine loop_rule (fun k : Nat => hd [(1, vT (.bool pos)), (2, .one (.bx 2 0)), (5, .one (.bx 5 0)), (7, vI k)] [(2, [.t (.int .i64 e.form.op), .t (.str e.form.atom.name), .t (tmS e.form.atom.args), .t (.str e.form.var), .t (fmS e.form.parts), .t (tmS e.terms), .t (exS e.parts)]), (5, [.t (.int .i64 e.form.op), .t (.str e.form.atom.name), .t (tmS e.form.atom.args), .t (.str e.form.var), .t (fmS e.form.parts)])] []) (fun k => k ≤ e.parts.length ∧ ∀ j, j < k → ∀ h : j < L.length, L[j] = true) (fun k => e.parts.length - k) 0 (weak_hd ?_) ⟨Nat.zero_le _, fun j hj => by omega⟩ ?_
    ·simp -implicitDefEqProofs only [go_sem]
    ·rintro k ⟨hk, hT⟩
     by_cases hlt : k < e.parts.length
     ·have hkt : k < e.terms.length := by omega
      have hkL : k < L.length := by omega
      have htw : e.terms[k].wt + e.form.wt ≤ 1048576 := by have := mem_sum Tm.wt e.terms _ (List.getElem_mem hkt); omega
      have hqw : q.wt ≤ e.form.wt := fparts_wt (by rw [hp]; simp)
      have htk : tstS e.form e.terms k e.parts[k] = (e.terms[k].good && !((e.terms.take k).any fun a => same a e.terms[k]) && (putF e.form.var e.terms[k] q).2 && same e.parts[k].form (putF e.form.var e.terms[k] q).1) := by
       unfold tstS
       rw [getD_eq hkt, hp]
       rfl
      have hLk : L[k] = (e.terms[k].good && !((e.terms.take k).any fun a => same a e.terms[k]) && (putF e.form.var e.terms[k] q).2 && same e.parts[k].form (putF e.form.var e.terms[k] q).1 && nodeS e.parts[k] pos) := by
       simp only [← hL, List.getElem_mapIdx]
       rw [htk]
      have HV := l2Good_c e.terms[k] (by omega)
      have HI := l16Index_c (e.terms.take k) e.terms[k]
      have hi2 := idxP_ge (e.terms.take k) fun a => same a e.terms[k]
      have HPt := l8Put_c e.form.var e.terms[k] (by omega) q hqf (by omega) (mul_small (by omega))
      have hpff := put_forms e.form.var e.terms[k] q hqf
      generalize (putF e.form.var e.terms[k] q).1 = R at HPt hLk hpff
      generalize (putF e.form.var e.terms[k] q).2 = ok at HPt hLk hpff
      have HSm := l8Same_c e.parts[k].form R
      have eT : tmS (e.terms.take k) = .sl 2 ((e.terms.map tmC).take k) := by unfold tmS; rw [List.map_take]
      rw [eT] at HI
      have e0 : (List.map fmC e.form.parts).getD 0 [] = fmC q := by rw [hp]; rfl
      have hp0 : e.form.parts.length = 1 := by rw [hp]; rfl
      simp only [tmD, fmD, tmC_eq e.terms[k], fmC_eq q, fmC_eq R, fmC_eq e.parts[k].form] at HV HI HPt HSm
      cases hg : e.terms[k].good
      ·rw [hg] at hLk HV
       simp only [Bool.false_and] at hLk
       rw [hv, all_no hkL hLk]
       simp -implicitDefEqProofs only [go_sem, hkt]
       refine drawn (by kernel_rfl) ?_
       simp -implicitDefEqProofs only [go_sem, hkt, getD_at, tmC_eq e.terms[k]]
       refine dCallF (HV) (by simp -implicitDefEqProofs only [go_sem]) ?_
       simp -implicitDefEqProofs only [go_sem]
       kernel_rfl
      ·rw [hg] at HV
       cases hi : (e.terms.take k).any fun a => same a e.terms[k]
       ·rw [hi] at hi2
        cases hok : ok
        ·rw [hg, hi, hok] at hLk
         simp only [Bool.and_false, Bool.false_and] at hLk
         rw [hv, all_no hkL hLk]
         rw [hok] at HPt
         simp -implicitDefEqProofs only [go_sem, hkt]
         refine drawn (by kernel_rfl) ?_
         simp -implicitDefEqProofs only [go_sem, hkt, getD_at, tmC_eq e.terms[k]]
         refine dCallF (HV) (by simp -implicitDefEqProofs only [go_sem, hkt, getD_at, tmC_eq e.terms[k]]) ?_
         simp -implicitDefEqProofs only [go_sem, hkt, getD_at, tmC_eq e.terms[k]]
         refine ⟨by omega, ?_⟩
         refine gCallF (HI) (by simp -implicitDefEqProofs only [go_sem, hi2]) ?_
         simp -implicitDefEqProofs only [go_sem, hi2]
         refine ⟨by kernel_rfl, ?_⟩
         refine drawn (by kernel_rfl) ?_
         simp -implicitDefEqProofs only [go_sem, hp0, e0, fmC_eq q, hkt, getD_at, tmC_eq e.terms[k]]
         refine dCallF (HPt) (by simp -implicitDefEqProofs only [go_sem]) ?_
         simp -implicitDefEqProofs only [go_sem]
         refine ⟨by kernel_rfl, ?_⟩
         refine drawn (by kernel_rfl) ?_
         simp -implicitDefEqProofs only [go_sem]
         kernel_rfl
        ·rw [hok] at HPt
         cases hsm : same e.parts[k].form R
         ·rw [hg, hi, hok, hsm] at hLk
          simp only [Bool.and_false, Bool.false_and] at hLk
          rw [hv, all_no hkL hLk]
          rw [hsm] at HSm
          simp -implicitDefEqProofs only [go_sem, hkt]
          refine drawn (by kernel_rfl) ?_
          simp -implicitDefEqProofs only [go_sem, hkt, getD_at, tmC_eq e.terms[k]]
          refine dCallF (HV) (by simp -implicitDefEqProofs only [go_sem, hkt, getD_at, tmC_eq e.terms[k]]) ?_
          simp -implicitDefEqProofs only [go_sem, hkt, getD_at, tmC_eq e.terms[k]]
          refine ⟨by omega, ?_⟩
          refine gCallF (HI) (by simp -implicitDefEqProofs only [go_sem, hi2]) ?_
          simp -implicitDefEqProofs only [go_sem, hi2]
          refine ⟨by kernel_rfl, ?_⟩
          refine drawn (by kernel_rfl) ?_
          simp -implicitDefEqProofs only [go_sem, hp0, e0, fmC_eq q, hkt, getD_at, tmC_eq e.terms[k]]
          refine dCallF (HPt) (by simp -implicitDefEqProofs only [go_sem]) ?_
          simp -implicitDefEqProofs only [go_sem]
          refine ⟨by kernel_rfl, ?_⟩
          refine drawn (by kernel_rfl) ?_
          simp -implicitDefEqProofs only [go_sem, hlt, getD_at, exC_eq e.parts[k]]
          refine gCallF (HSm) (by simp -implicitDefEqProofs only [go_sem]) ?_
          simp -implicitDefEqProofs only [go_sem]
          kernel_rfl
         ·have hpf : e.parts[k].form.forms = true := by rw [same_iff.1 hsm]; exact hpff hok
          have HC := H e.parts[k] (List.getElem_mem hlt) hpf pos
          unfold nodeSP at HC
          simp only [exD, exC_eq e.parts[k]] at HC
          rw [hg, hi, hok, hsm] at hLk
          simp only [Bool.not_false, Bool.and_true, Bool.true_and] at hLk
          rw [hsm] at HSm
          cases hb : nodeS e.parts[k] pos
          ·rw [hb] at hLk HC
           rw [hv, all_no hkL hLk]
           simp -implicitDefEqProofs only [go_sem, hkt]
           refine drawn (by kernel_rfl) ?_
           simp -implicitDefEqProofs only [go_sem, hkt, getD_at, tmC_eq e.terms[k]]
           refine dCallF (HV) (by simp -implicitDefEqProofs only [go_sem, hkt, getD_at, tmC_eq e.terms[k]]) ?_
           simp -implicitDefEqProofs only [go_sem, hkt, getD_at, tmC_eq e.terms[k]]
           refine ⟨by omega, ?_⟩
           refine gCallF (HI) (by simp -implicitDefEqProofs only [go_sem, hi2]) ?_
           simp -implicitDefEqProofs only [go_sem, hi2]
           refine ⟨by kernel_rfl, ?_⟩
           refine drawn (by kernel_rfl) ?_
           simp -implicitDefEqProofs only [go_sem, hp0, e0, fmC_eq q, hkt, getD_at, tmC_eq e.terms[k]]
           refine dCallF (HPt) (by simp -implicitDefEqProofs only [go_sem]) ?_
           simp -implicitDefEqProofs only [go_sem]
           refine ⟨by kernel_rfl, ?_⟩
           refine drawn (by kernel_rfl) ?_
           simp -implicitDefEqProofs only [go_sem, hlt, getD_at, exC_eq e.parts[k]]
           refine gCallF (HSm) (by simp -implicitDefEqProofs only [go_sem, hlt, getD_at, exC_eq e.parts[k]]) ?_
           simp -implicitDefEqProofs only [go_sem, hlt, getD_at, exC_eq e.parts[k]]
           refine gCallF (HC) (by simp -implicitDefEqProofs only [go_sem]) ?_
           simp -implicitDefEqProofs only [go_sem]
           kernel_rfl
          ·rw [hb] at hLk HC
           simp -implicitDefEqProofs only [go_sem, hkt]
           refine drawn (by kernel_rfl) ?_
           simp -implicitDefEqProofs only [go_sem, hkt, getD_at, tmC_eq e.terms[k]]
           refine dCallF (HV) (by simp -implicitDefEqProofs only [go_sem, hkt, getD_at, tmC_eq e.terms[k]]) ?_
           simp -implicitDefEqProofs only [go_sem, hkt, getD_at, tmC_eq e.terms[k]]
           refine ⟨by omega, ?_⟩
           refine gCallF (HI) (by simp -implicitDefEqProofs only [go_sem, hi2]) ?_
           simp -implicitDefEqProofs only [go_sem, hi2]
           refine ⟨by kernel_rfl, ?_⟩
           refine drawn (by kernel_rfl) ?_
           simp -implicitDefEqProofs only [go_sem, hp0, e0, fmC_eq q, hkt, getD_at, tmC_eq e.terms[k]]
           refine dCallF (HPt) (by simp -implicitDefEqProofs only [go_sem]) ?_
           simp -implicitDefEqProofs only [go_sem]
           refine ⟨by kernel_rfl, ?_⟩
           refine drawn (by kernel_rfl) ?_
           simp -implicitDefEqProofs only [go_sem, hlt, getD_at, exC_eq e.parts[k]]
           refine gCallF (HSm) (by simp -implicitDefEqProofs only [go_sem, hlt, getD_at, exC_eq e.parts[k]]) ?_
           simp -implicitDefEqProofs only [go_sem, hlt, getD_at, exC_eq e.parts[k]]
           refine gCallF (HC) (by simp -implicitDefEqProofs only [go_sem]) ?_
           simp -implicitDefEqProofs only [go_sem]
           refine ⟨by kernel_rfl, k + 1, ⟨by omega, all_step hT hLk⟩, by omega, weak_hd ?_⟩
           simp -implicitDefEqProofs only [go_sem]
           rw [wrap_s (by omega)]
       ·rw [hg, hi] at hLk
        rw [hi] at hi2
        simp only [Bool.not_true, Bool.and_false, Bool.false_and] at hLk
        rw [hv, all_no hkL hLk]
        simp -implicitDefEqProofs only [go_sem, hkt]
        refine drawn (by kernel_rfl) ?_
        simp -implicitDefEqProofs only [go_sem, hkt, getD_at, tmC_eq e.terms[k]]
        refine dCallF (HV) (by simp -implicitDefEqProofs only [go_sem, hkt, getD_at, tmC_eq e.terms[k]]) ?_
        simp -implicitDefEqProofs only [go_sem, hkt, getD_at, tmC_eq e.terms[k]]
        refine ⟨by omega, ?_⟩
        refine gCallF (HI) (by simp -implicitDefEqProofs only [go_sem, hi2]) ?_
        simp -implicitDefEqProofs only [go_sem, hi2]
        kernel_rfl
     ·have hkt : ¬ k < e.terms.length := by omega
      rw [hv, all_yes fun j hj => hT j (by omega) hj]
      simp -implicitDefEqProofs only [go_sem, hkt]
   ·rw [hst] at hv HSt
    simp only [Bool.not_true, Bool.false_or] at hv
    by_cases h1 : e.terms.length = 1
    ·obtain ⟨t, ht⟩ := List.length_eq_one_iff.1 h1
     have hgd : e.terms.getD 0 Tm.zero = t := by rw [ht]; rfl
     rw [show decide (e.terms.length = 1) = true by simp [h1], hgd, Bool.true_and] at hv
     have HVr := l2Var_c t.name
     have e0 : (List.map tmC e.terms).getD 0 [] = tmC t := by rw [ht]; rfl
     have h1p : e.parts.length = 1 := by omega
     have hne1 : ((1 : Int) != (e.parts.length : Int)) = false := by rw [h1p]; rfl
     cases hvv : varOk t.name
     ·rw [hvv, Bool.false_and] at hv
      rw [hvv] at HVr
      rw [hv]
      refine FC_of Tryz.call137 Tryz.func137 rfl (by kernel_rfl) (by simp only [rd, List.map_cons, List.map_nil, List.length_cons, List.length_nil, Tryz.ntmps137]; omega) ?_
      simp -implicitDefEqProofs only [go_sem, Tryz.results137]
      refine callF (HQ) (by simp -implicitDefEqProofs only [go_sem, h1, h1p, hne1]) ?_
      simp -implicitDefEqProofs only [go_sem, h1, h1p, hne1]
      refine callF (HSt) (by simp -implicitDefEqProofs only [go_sem, h1, h1p, e0, tmC_eq t]) ?_
      simp -implicitDefEqProofs only [go_sem, h1, h1p, e0, tmC_eq t]
      refine callF (HVr) (by simp -implicitDefEqProofs only [go_sem]) ?_
      simp -implicitDefEqProofs only [go_sem]
     ·rw [hvv, Bool.true_and] at hv
      rw [hvv] at HVr
      refine FC_of Tryz.call137 Tryz.func137 rfl (by kernel_rfl) (by simp only [rd, List.map_cons, List.map_nil, List.length_cons, List.length_nil, Tryz.ntmps137]; omega) ?_
      simp -implicitDefEqProofs only [go_sem, Tryz.results137]
      refine callF (HQ) (by simp -implicitDefEqProofs only [go_sem, h1, h1p, hne1]) ?_
      simp -implicitDefEqProofs only [go_sem, h1, h1p, hne1]
      refine callF (HSt) (by simp -implicitDefEqProofs only [go_sem, h1, h1p, e0, tmC_eq t]) ?_
      simp -implicitDefEqProofs only [go_sem, h1, h1p, e0, tmC_eq t]
      refine callF (HVr) (by simp -implicitDefEqProofs only [go_sem]) ?_
      simp -implicitDefEqProofs only [go_sem]
      refine loop_rule (fun k : Nat => hd [(1, vT (.bool pos)), (2, .one (.bx 2 0)), (5, .one (.bx 5 0)), (7, vI k)] [(2, [.t (.int .i64 e.form.op), .t (.str e.form.atom.name), .t (tmS e.form.atom.args), .t (.str e.form.var), .t (fmS e.form.parts), .t (tmS e.terms), .t (exS e.parts)]), (5, [.t (.int .i64 e.form.op), .t (.str e.form.atom.name), .t (tmS e.form.atom.args), .t (.str e.form.var), .t (fmS e.form.parts)])] []) (fun k => k ≤ e.parts.length ∧ ∀ j, j < k → ∀ h : j < L.length, L[j] = true) (fun k => e.parts.length - k) 0 (weak_hd ?_) ⟨Nat.zero_le _, fun j hj => by omega⟩ ?_
      ·simp -implicitDefEqProofs only [go_sem]
      ·rintro k ⟨hk, hT⟩
       by_cases hlt : k < e.parts.length
       ·have hkt : k < e.terms.length := by omega
        have hkL : k < L.length := by omega
        have htw : e.terms[k].wt + e.form.wt ≤ 1048576 := by have := mem_sum Tm.wt e.terms _ (List.getElem_mem hkt); omega
        have hqw : q.wt ≤ e.form.wt := fparts_wt (by rw [hp]; simp)
        have htk : tstS e.form e.terms k e.parts[k] = (e.terms[k].good && !((e.terms.take k).any fun a => same a e.terms[k]) && (putF e.form.var e.terms[k] q).2 && same e.parts[k].form (putF e.form.var e.terms[k] q).1) := by
         unfold tstS
         rw [getD_eq hkt, hp]
         rfl
        have hLk : L[k] = (e.terms[k].good && !((e.terms.take k).any fun a => same a e.terms[k]) && (putF e.form.var e.terms[k] q).2 && same e.parts[k].form (putF e.form.var e.terms[k] q).1 && nodeS e.parts[k] pos) := by
         simp only [← hL, List.getElem_mapIdx]
         rw [htk]
        have HV := l2Good_c e.terms[k] (by omega)
        have HI := l16Index_c (e.terms.take k) e.terms[k]
        have hi2 := idxP_ge (e.terms.take k) fun a => same a e.terms[k]
        have HPt := l8Put_c e.form.var e.terms[k] (by omega) q hqf (by omega) (mul_small (by omega))
        have hpff := put_forms e.form.var e.terms[k] q hqf
        generalize (putF e.form.var e.terms[k] q).1 = R at HPt hLk hpff
        generalize (putF e.form.var e.terms[k] q).2 = ok at HPt hLk hpff
        have HSm := l8Same_c e.parts[k].form R
        have eT : tmS (e.terms.take k) = .sl 2 ((e.terms.map tmC).take k) := by unfold tmS; rw [List.map_take]
        rw [eT] at HI
        have e0 : (List.map fmC e.form.parts).getD 0 [] = fmC q := by rw [hp]; rfl
        have hp0 : e.form.parts.length = 1 := by rw [hp]; rfl
        simp only [tmD, fmD, tmC_eq e.terms[k], fmC_eq q, fmC_eq R, fmC_eq e.parts[k].form] at HV HI HPt HSm
        cases hg : e.terms[k].good
        ·rw [hg] at hLk HV
         simp only [Bool.false_and] at hLk
         rw [hv, all_no hkL hLk]
         simp -implicitDefEqProofs only [go_sem, hkt]
         refine drawn (by kernel_rfl) ?_
         simp -implicitDefEqProofs only [go_sem, hkt, getD_at, tmC_eq e.terms[k]]
         refine dCallF (HV) (by simp -implicitDefEqProofs only [go_sem]) ?_
         simp -implicitDefEqProofs only [go_sem]
         kernel_rfl
        ·rw [hg] at HV
         cases hi : (e.terms.take k).any fun a => same a e.terms[k]
         ·rw [hi] at hi2
          cases hok : ok
          ·rw [hg, hi, hok] at hLk
           simp only [Bool.and_false, Bool.false_and] at hLk
           rw [hv, all_no hkL hLk]
           rw [hok] at HPt
           simp -implicitDefEqProofs only [go_sem, hkt]
           refine drawn (by kernel_rfl) ?_
           simp -implicitDefEqProofs only [go_sem, hkt, getD_at, tmC_eq e.terms[k]]
           refine dCallF (HV) (by simp -implicitDefEqProofs only [go_sem, hkt, getD_at, tmC_eq e.terms[k]]) ?_
           simp -implicitDefEqProofs only [go_sem, hkt, getD_at, tmC_eq e.terms[k]]
           refine ⟨by omega, ?_⟩
           refine gCallF (HI) (by simp -implicitDefEqProofs only [go_sem, hi2]) ?_
           simp -implicitDefEqProofs only [go_sem, hi2]
           refine ⟨by kernel_rfl, ?_⟩
           refine drawn (by kernel_rfl) ?_
           simp -implicitDefEqProofs only [go_sem, hp0, e0, fmC_eq q, hkt, getD_at, tmC_eq e.terms[k]]
           refine dCallF (HPt) (by simp -implicitDefEqProofs only [go_sem]) ?_
           simp -implicitDefEqProofs only [go_sem]
           refine ⟨by kernel_rfl, ?_⟩
           refine drawn (by kernel_rfl) ?_
           simp -implicitDefEqProofs only [go_sem]
           kernel_rfl
          ·rw [hok] at HPt
           cases hsm : same e.parts[k].form R
           ·rw [hg, hi, hok, hsm] at hLk
            simp only [Bool.and_false, Bool.false_and] at hLk
            rw [hv, all_no hkL hLk]
            rw [hsm] at HSm
            simp -implicitDefEqProofs only [go_sem, hkt]
            refine drawn (by kernel_rfl) ?_
            simp -implicitDefEqProofs only [go_sem, hkt, getD_at, tmC_eq e.terms[k]]
            refine dCallF (HV) (by simp -implicitDefEqProofs only [go_sem, hkt, getD_at, tmC_eq e.terms[k]]) ?_
            simp -implicitDefEqProofs only [go_sem, hkt, getD_at, tmC_eq e.terms[k]]
            refine ⟨by omega, ?_⟩
            refine gCallF (HI) (by simp -implicitDefEqProofs only [go_sem, hi2]) ?_
            simp -implicitDefEqProofs only [go_sem, hi2]
            refine ⟨by kernel_rfl, ?_⟩
            refine drawn (by kernel_rfl) ?_
            simp -implicitDefEqProofs only [go_sem, hp0, e0, fmC_eq q, hkt, getD_at, tmC_eq e.terms[k]]
            refine dCallF (HPt) (by simp -implicitDefEqProofs only [go_sem]) ?_
            simp -implicitDefEqProofs only [go_sem]
            refine ⟨by kernel_rfl, ?_⟩
            refine drawn (by kernel_rfl) ?_
            simp -implicitDefEqProofs only [go_sem, hlt, getD_at, exC_eq e.parts[k]]
            refine gCallF (HSm) (by simp -implicitDefEqProofs only [go_sem]) ?_
            simp -implicitDefEqProofs only [go_sem]
            kernel_rfl
           ·have hpf : e.parts[k].form.forms = true := by rw [same_iff.1 hsm]; exact hpff hok
            have HC := H e.parts[k] (List.getElem_mem hlt) hpf pos
            unfold nodeSP at HC
            simp only [exD, exC_eq e.parts[k]] at HC
            rw [hg, hi, hok, hsm] at hLk
            simp only [Bool.not_false, Bool.and_true, Bool.true_and] at hLk
            rw [hsm] at HSm
            cases hb : nodeS e.parts[k] pos
            ·rw [hb] at hLk HC
             rw [hv, all_no hkL hLk]
             simp -implicitDefEqProofs only [go_sem, hkt]
             refine drawn (by kernel_rfl) ?_
             simp -implicitDefEqProofs only [go_sem, hkt, getD_at, tmC_eq e.terms[k]]
             refine dCallF (HV) (by simp -implicitDefEqProofs only [go_sem, hkt, getD_at, tmC_eq e.terms[k]]) ?_
             simp -implicitDefEqProofs only [go_sem, hkt, getD_at, tmC_eq e.terms[k]]
             refine ⟨by omega, ?_⟩
             refine gCallF (HI) (by simp -implicitDefEqProofs only [go_sem, hi2]) ?_
             simp -implicitDefEqProofs only [go_sem, hi2]
             refine ⟨by kernel_rfl, ?_⟩
             refine drawn (by kernel_rfl) ?_
             simp -implicitDefEqProofs only [go_sem, hp0, e0, fmC_eq q, hkt, getD_at, tmC_eq e.terms[k]]
             refine dCallF (HPt) (by simp -implicitDefEqProofs only [go_sem]) ?_
             simp -implicitDefEqProofs only [go_sem]
             refine ⟨by kernel_rfl, ?_⟩
             refine drawn (by kernel_rfl) ?_
             simp -implicitDefEqProofs only [go_sem, hlt, getD_at, exC_eq e.parts[k]]
             refine gCallF (HSm) (by simp -implicitDefEqProofs only [go_sem, hlt, getD_at, exC_eq e.parts[k]]) ?_
             simp -implicitDefEqProofs only [go_sem, hlt, getD_at, exC_eq e.parts[k]]
             refine gCallF (HC) (by simp -implicitDefEqProofs only [go_sem]) ?_
             simp -implicitDefEqProofs only [go_sem]
             kernel_rfl
            ·rw [hb] at hLk HC
             simp -implicitDefEqProofs only [go_sem, hkt]
             refine drawn (by kernel_rfl) ?_
             simp -implicitDefEqProofs only [go_sem, hkt, getD_at, tmC_eq e.terms[k]]
             refine dCallF (HV) (by simp -implicitDefEqProofs only [go_sem, hkt, getD_at, tmC_eq e.terms[k]]) ?_
             simp -implicitDefEqProofs only [go_sem, hkt, getD_at, tmC_eq e.terms[k]]
             refine ⟨by omega, ?_⟩
             refine gCallF (HI) (by simp -implicitDefEqProofs only [go_sem, hi2]) ?_
             simp -implicitDefEqProofs only [go_sem, hi2]
             refine ⟨by kernel_rfl, ?_⟩
             refine drawn (by kernel_rfl) ?_
             simp -implicitDefEqProofs only [go_sem, hp0, e0, fmC_eq q, hkt, getD_at, tmC_eq e.terms[k]]
             refine dCallF (HPt) (by simp -implicitDefEqProofs only [go_sem]) ?_
             simp -implicitDefEqProofs only [go_sem]
             refine ⟨by kernel_rfl, ?_⟩
             refine drawn (by kernel_rfl) ?_
             simp -implicitDefEqProofs only [go_sem, hlt, getD_at, exC_eq e.parts[k]]
             refine gCallF (HSm) (by simp -implicitDefEqProofs only [go_sem, hlt, getD_at, exC_eq e.parts[k]]) ?_
             simp -implicitDefEqProofs only [go_sem, hlt, getD_at, exC_eq e.parts[k]]
             refine gCallF (HC) (by simp -implicitDefEqProofs only [go_sem]) ?_
             simp -implicitDefEqProofs only [go_sem]
             refine ⟨by kernel_rfl, k + 1, ⟨by omega, all_step hT hLk⟩, by omega, weak_hd ?_⟩
             simp -implicitDefEqProofs only [go_sem]
             rw [wrap_s (by omega)]
         ·rw [hg, hi] at hLk
          rw [hi] at hi2
          simp only [Bool.not_true, Bool.and_false, Bool.false_and] at hLk
          rw [hv, all_no hkL hLk]
          simp -implicitDefEqProofs only [go_sem, hkt]
          refine drawn (by kernel_rfl) ?_
          simp -implicitDefEqProofs only [go_sem, hkt, getD_at, tmC_eq e.terms[k]]
          refine dCallF (HV) (by simp -implicitDefEqProofs only [go_sem, hkt, getD_at, tmC_eq e.terms[k]]) ?_
          simp -implicitDefEqProofs only [go_sem, hkt, getD_at, tmC_eq e.terms[k]]
          refine ⟨by omega, ?_⟩
          refine gCallF (HI) (by simp -implicitDefEqProofs only [go_sem, hi2]) ?_
          simp -implicitDefEqProofs only [go_sem, hi2]
          kernel_rfl
       ·have hkt : ¬ k < e.terms.length := by omega
        rw [hv, all_yes fun j hj => hT j (by omega) hj]
        simp -implicitDefEqProofs only [go_sem, hkt]
    ·rw [show decide (e.terms.length = 1) = false by simp [h1], Bool.false_and, Bool.false_and] at hv
     rw [hv]
     have hn1 : ((e.terms.length : Int) != 1) = true := by rw [bne_iff_ne]; omega
     refine FC_of Tryz.call137 Tryz.func137 rfl (by kernel_rfl) (by simp only [rd, List.map_cons, List.map_nil, List.length_cons, List.length_nil, Tryz.ntmps137]; omega) ?_
     simp -implicitDefEqProofs only [go_sem, Tryz.results137]
     refine callF (HQ) (by simp -implicitDefEqProofs only [go_sem, hne]) ?_
     simp -implicitDefEqProofs only [go_sem, hne]
     refine callF (HSt) (by simp -implicitDefEqProofs only [go_sem, hn1]) ?_
     simp -implicitDefEqProofs only [go_sem, hn1]
  ·rw [show decide (e.terms.length = e.parts.length) = false by simp [hlen], Bool.false_and, Bool.false_and] at hv
   rw [hv]
   have hne : ((e.terms.length : Int) != (e.parts.length : Int)) = true := by rw [bne_iff_ne]; omega
   simp only [exD, exC_eq, fmD, fmC_eq e.form] at HQ ⊢
   refine FC_of Tryz.call137 Tryz.func137 rfl (by kernel_rfl) (by simp only [rd, List.map_cons, List.map_nil, List.length_cons, List.length_nil, Tryz.ntmps137]; omega) ?_
   simp -implicitDefEqProofs only [go_sem, Tryz.results137]
   refine callF (HQ) (by simp -implicitDefEqProofs only [go_sem, hne]) ?_
   simp -implicitDefEqProofs only [go_sem, hne]
end Go.Proofs.YtbccfiillleimaaGreat
namespace Go.Proofs.YtbccfiillleimaaGreat
set_option linter.unusedSimpArgs false
set_option linter.unusedVariables false
set_option linter.unusedSectionVars false
set_option maxRecDepth 4000
open Go.RowKit
def namesS : Ex → Bool → List Str := Ex.fold fun f ts ps rs pos => (if strongE f pos = true then [(ts.getD 0 Tm.zero).name] else []) ++ ((ps.zip rs).mapIdx fun i q => q.2 (sgn f i pos)).flatten
theorem namesS_eq (e : Ex) (pos : Bool) : namesS e pos = (if strongE e.form pos = true then [(e.terms.getD 0 Tm.zero).name] else []) ++ (e.parts.mapIdx fun i p => namesS p (sgn e.form i pos)).flatten := by
 cases e with
 | mk f ts ps =>
  conv => lhs; unfold namesS; rw [Ex.fold_eq]
  simp only [zip_map]
  rfl
theorem sgn_q {f : Fm} (h : isQ f.op = true) (i : Nat) (pos : Bool) : sgn f i pos = pos := by
 have h8 : f.op = 8 ∨ f.op = 9 := by unfold isQ at h; rw [Bool.or_eq_true, beq_iff_eq, beq_iff_eq] at h; exact h
 unfold sgn
 rcases h8 with e | e <;> rw [e] <;> cases pos <;> rfl
theorem flat_range (w : Nat → Nat) : ∀ (l : List (List Str)) (j : Nat), (∀ i (h : i < l.length), l[i].length ≤ w (j + i)) → l.flatten.length ≤ ((List.range l.length).map fun i => w (j + i)).sum
 | [], _, _ => by simp
 | x :: l, j, h => by
  have h0 := h 0 (by simp)
  rw [Nat.add_zero] at h0
  have h0 : x.length ≤ w j := h0
  have ih := flat_range w l (j + 1) fun i hi => by
   have := h (i + 1) (by simpa using hi)
   rw [show j + 1 + i = j + (i + 1) by omega]
   simpa using this
  have e : ((List.range (x :: l).length).map fun i => w (j + i)).sum = w j + ((List.range l.length).map fun i => w (j + 1 + i)).sum := by
   rw [List.length_cons, List.range_succ_eq_map, List.map_cons, List.sum_cons, List.map_map]
   congr 2
   refine List.map_congr_left fun i _ => ?_
   show w (j + (i + 1)) = _
   rw [show j + (i + 1) = j + 1 + i by omega]
  rw [e, List.flatten_cons, List.length_append]
  omega
theorem namesS_len : ∀ (e : Ex) (pos : Bool), (namesS e pos).length ≤ e.nodes := ex_ind fun f ts ps ih pos => by
 rw [namesS_eq, Ex.nodes_eq]
 have hr := range_sum ps
 have key := flat_range (fun i => (ps.getD i (.mk (mkF 0 []) [] [])).nodes) (ps.mapIdx fun i p => namesS p (sgn f i pos)) 0 fun i h => by
  have hi : i < ps.length := by simpa using h
  have := ih ps[i] (List.getElem_mem hi) (sgn f i pos)
  simp only [List.getElem_mapIdx, Nat.zero_add]
  rw [List.getD_eq_getElem?_getD, List.getElem?_eq_getElem hi]
  exact this
 simp only [List.length_mapIdx, Nat.zero_add] at key
 rw [hr] at key
 show ((if strongE f pos = true then [(ts.getD 0 Tm.zero).name] else []) ++ (ps.mapIdx fun i p => namesS p (sgn f i pos)).flatten).length ≤ 1 + (ps.map Ex.nodes).sum
 rw [List.length_append]
 split
 ·rw [List.length_singleton]; omega
 ·rw [List.length_nil]; omega
theorem nodeS_parts {e : Ex} {pos : Bool} (h : nodeS e pos = true) : (∀ i (hi : i < e.parts.length), nodeS e.parts[i] (sgn e.form i pos) = true) ∧ (strongE e.form pos = true → e.terms.length = 1) := by
 rw [nodeS_eq] at h
 cases hq : isQ e.form.op
 ·rw [hq, if_neg (by simp), Bool.and_eq_true, List.all_eq_true] at h
  refine ⟨fun i hi => ?_, fun hs => by unfold strongE at hs; rw [hq] at hs; cases hs⟩
  have := h.2 _ (List.getElem_mem (l := e.parts.mapIdx fun i p => (same p.form (e.form.parts.getD i (mkF 0 [])) && nodeS p (sgn e.form i pos))) (n := i) (by simpa using hi))
  simp only [List.getElem_mapIdx, id, Bool.and_eq_true] at this
  exact this.2
 ·rw [hq, if_pos rfl, Bool.and_eq_true, Bool.and_eq_true, List.all_eq_true] at h
  refine ⟨fun i hi => ?_, fun hs => ?_⟩
  ·have := h.2 _ (List.getElem_mem (l := e.parts.mapIdx fun i p => (tstS e.form e.terms i p && nodeS p pos)) (n := i) (by simpa using hi))
   simp only [List.getElem_mapIdx, id, Bool.and_eq_true] at this
   rw [sgn_q hq]; exact this.2
  ·have := h.1.2
   rw [hs] at this
   simp only [Bool.not_true, Bool.false_or, Bool.and_eq_true, decide_eq_true_eq] at this
   exact this.1
theorem l17Names_of (e : Ex) (he : e.wt ≤ 1048576) (pos : Bool) (hn : nodeS e pos = true) (H : ∀ p ∈ e.parts, ∀ pos, nodeS p pos = true → FC Tryz.prog 97 [exD p, bD pos] [.one (strS (namesS p pos))]) : FC Tryz.prog 97 [exD e, bD pos] [.one (strS (namesS e pos))] := by
 have hv := namesS_eq e pos
 have hW := e.wt_eq
 have hln := namesS_len e pos
 have hen := enodes_wt e
 have HSt := l17Strong_c e.form pos
 have hse : (isQ e.form.op && ((e.form.op == 8) == pos)) = strongE e.form pos := rfl
 rw [hse] at HSt
 obtain ⟨hpts, hst1⟩ := nodeS_parts hn
 rw [hv]
 rw [hv] at hln
 generalize hL : (e.parts.mapIdx fun i p => namesS p (sgn e.form i pos)) = L at hv hln ⊢
 have hLl : L.length = e.parts.length := by rw [← hL, List.length_mapIdx]
 have hLf : L.flatten.length ≤ e.nodes := by rw [List.length_append] at hln; omega
 have hgrow : ∀ k, ((L.take k).flatten).length ≤ L.flatten.length := fun k => by
  have := congrArg (fun l => l.flatten.length) (List.take_append_drop k L)
  simp only [List.flatten_append, List.length_append] at this
  omega
 simp only [exD, exC_eq, fmD, fmC_eq e.form] at HSt ⊢
 cases hst : strongE e.form pos
 ·rw [hst] at HSt hln
  rw [hst] at hv
  refine FC_of Tryz.call97 Tryz.func97 rfl (by kernel_rfl) (by simp only [rd, List.map_cons, List.map_nil, List.length_cons, List.length_nil, Tryz.ntmps97]; omega) ?_
  simp -implicitDefEqProofs only [go_sem, Tryz.results97]
  refine buildDc (by simp -implicitDefEqProofs only [go_sem]) ?_
  simp -implicitDefEqProofs only [go_sem]
  refine callF (HSt) (by simp -implicitDefEqProofs only [go_sem]) ?_
  simp -implicitDefEqProofs only [go_sem]
  refine loop_rule (fun k : Nat => hd [(1, vT (.bool pos)), (2, .one (.bx 2 0)), (5, .one (.ow 224 0)), (6, vI k)] [(2, [.t (.int .i64 e.form.op), .t (.str e.form.atom.name), .t (tmS e.form.atom.args), .t (.str e.form.var), .t (fmS e.form.parts), .t (tmS e.terms), .t (exS e.parts)])] [(224, ⟨true, 1, (([] : List Str) ++ (L.take k).flatten).map fun s => [.str s], 0, true⟩)]) (fun k => k ≤ e.parts.length) (fun k => e.parts.length - k) 0 (weak_hd ?_) (Nat.zero_le _) ?_
  ·simp -implicitDefEqProofs only [go_sem]
  ·intro k hk
   by_cases hlt : k < e.parts.length
   ·have HPo := l17Sign_c e.form k pos
    have hsg : (pos != (e.form.op == 4 || (e.form.op == 7 && ((k : Int) == 0)))) = sgn e.form k pos := rfl
    rw [hsg] at HPo
    have HC := H e.parts[k] (List.getElem_mem hlt) (sgn e.form k pos) (hpts k hlt)
    have hgk := hgrow k
    have hLk : L[k]'(by omega) = namesS e.parts[k] (sgn e.form k pos) := by simp only [← hL, List.getElem_mapIdx]
    simp only [fmD, fmC_eq e.form, exD, exC_eq e.parts[k]] at HPo HC
    have hg2 := hgrow (k + 1)
    have e9 : (L.take (k + 1)).flatten = (L.take k).flatten ++ namesS e.parts[k] (sgn e.form k pos) := by
     rw [List.take_succ_eq_append_getElem (by omega), List.flatten_append, hLk]; simp
    rw [e9, List.length_append] at hg2
    have hap : (L.take k).flatten.length + (namesS e.parts[k] (sgn e.form k pos)).length ≤ 4294967296 := by omega
    have hap2 : (L.take k).flatten.length + 1 + (namesS e.parts[k] (sgn e.form k pos)).length ≤ 4294967296 := by omega
    simp -implicitDefEqProofs only [go_sem, hlt]
    refine drawn (by kernel_rfl) ?_
    simp -implicitDefEqProofs only [go_sem, hlt, getD_at, exC_eq e.parts[k]]
    refine dCallF (HPo) (by simp -implicitDefEqProofs only [go_sem]) ?_
    simp -implicitDefEqProofs only [go_sem]
    refine dCallF (HC) (by simp -implicitDefEqProofs only [go_sem]) ?_
    simp -implicitDefEqProofs only [go_sem]
    refine dApD true (by simp -implicitDefEqProofs only [go_sem, ne_eq, List.length_map, hap, hap2]) ?_
    simp -implicitDefEqProofs only [go_sem, ne_eq, List.length_map, hap, hap2]
    refine ⟨by kernel_rfl, k + 1, hlt, by omega, weak_hd ?_⟩
    simp -implicitDefEqProofs only [go_sem]
    rw [wrap_s (by omega), e9, List.map_append]
    exact ⟨rfl, rfl⟩
   ·have htk : (L.take k) = L := List.take_of_length_le (by omega)
    simp -implicitDefEqProofs only [go_sem, hlt, htk]
 ·rw [hst] at HSt hln
  rw [hst] at hv
  obtain ⟨t, ht⟩ := List.length_eq_one_iff.1 (hst1 hst)
  have h1 : e.terms.length = 1 := hst1 hst
  have hgd : e.terms.getD 0 Tm.zero = t := by rw [ht]; rfl
  have e0 : (List.map tmC e.terms).getD 0 [] = tmC t := by rw [ht]; rfl
  rw [hgd]
  rw [hgd] at hln
  refine FC_of Tryz.call97 Tryz.func97 rfl (by kernel_rfl) (by simp only [rd, List.map_cons, List.map_nil, List.length_cons, List.length_nil, Tryz.ntmps97]; omega) ?_
  simp -implicitDefEqProofs only [go_sem, Tryz.results97]
  refine buildDc (by simp -implicitDefEqProofs only [go_sem]) ?_
  simp -implicitDefEqProofs only [go_sem]
  refine callF (HSt) (by simp -implicitDefEqProofs only [go_sem, h1, e0, tmC_eq t]) ?_
  simp -implicitDefEqProofs only [go_sem, h1, e0, tmC_eq t]
  refine buildDc (by simp -implicitDefEqProofs only [go_sem]) ?_
  simp -implicitDefEqProofs only [go_sem]
  refine apD true (by simp -implicitDefEqProofs only [go_sem, ne_eq]) ?_
  simp -implicitDefEqProofs only [go_sem, ne_eq]
  refine loop_rule (fun k : Nat => hd [(1, vT (.bool pos)), (2, .one (.bx 2 0)), (5, .one (.ow 224 0)), (6, vI k)] [(2, [.t (.int .i64 e.form.op), .t (.str e.form.atom.name), .t (tmS e.form.atom.args), .t (.str e.form.var), .t (fmS e.form.parts), .t (tmS e.terms), .t (exS e.parts)])] [(224, ⟨true, 1, ([t.name] ++ (L.take k).flatten).map fun s => [.str s], 0, true⟩)]) (fun k => k ≤ e.parts.length) (fun k => e.parts.length - k) 0 (weak_hd ?_) (Nat.zero_le _) ?_
  ·simp -implicitDefEqProofs only [go_sem]
  ·intro k hk
   by_cases hlt : k < e.parts.length
   ·have HPo := l17Sign_c e.form k pos
    have hsg : (pos != (e.form.op == 4 || (e.form.op == 7 && ((k : Int) == 0)))) = sgn e.form k pos := rfl
    rw [hsg] at HPo
    have HC := H e.parts[k] (List.getElem_mem hlt) (sgn e.form k pos) (hpts k hlt)
    have hgk := hgrow k
    have hLk : L[k]'(by omega) = namesS e.parts[k] (sgn e.form k pos) := by simp only [← hL, List.getElem_mapIdx]
    simp only [fmD, fmC_eq e.form, exD, exC_eq e.parts[k]] at HPo HC
    have hg2 := hgrow (k + 1)
    have e9 : (L.take (k + 1)).flatten = (L.take k).flatten ++ namesS e.parts[k] (sgn e.form k pos) := by
     rw [List.take_succ_eq_append_getElem (by omega), List.flatten_append, hLk]; simp
    rw [e9, List.length_append] at hg2
    have hap : (L.take k).flatten.length + (namesS e.parts[k] (sgn e.form k pos)).length ≤ 4294967296 := by omega
    have hap2 : (L.take k).flatten.length + 1 + (namesS e.parts[k] (sgn e.form k pos)).length ≤ 4294967296 := by omega
    simp -implicitDefEqProofs only [go_sem, hlt]
    refine drawn (by kernel_rfl) ?_
    simp -implicitDefEqProofs only [go_sem, hlt, getD_at, exC_eq e.parts[k]]
    refine dCallF (HPo) (by simp -implicitDefEqProofs only [go_sem]) ?_
    simp -implicitDefEqProofs only [go_sem]
    refine dCallF (HC) (by simp -implicitDefEqProofs only [go_sem]) ?_
    simp -implicitDefEqProofs only [go_sem]
    refine dApD true (by simp -implicitDefEqProofs only [go_sem, ne_eq, List.length_map, hap, hap2]) ?_
    simp -implicitDefEqProofs only [go_sem, ne_eq, List.length_map, hap, hap2]
    refine ⟨by kernel_rfl, k + 1, hlt, by omega, weak_hd ?_⟩
    simp -implicitDefEqProofs only [go_sem]
    rw [wrap_s (by omega), e9, List.map_append]
    exact ⟨rfl, rfl⟩
   ·have htk : (L.take k) = L := List.take_of_length_le (by omega)
    simp -implicitDefEqProofs only [go_sem, hlt, htk]
end Go.Proofs.YtbccfiillleimaaGreat
namespace Go.Proofs.YtbccfiillleimaaGreat
set_option linter.unusedSimpArgs false
set_option linter.unusedVariables false
set_option linter.unusedSectionVars false
set_option maxRecDepth 4000
open Go.RowKit
theorem l17Names_c : ∀ e : Ex, e.wt ≤ 1048576 → ∀ pos, nodeS e pos = true → FC Tryz.prog 97 [exD e, bD pos] [.one (strS (namesS e pos))] :=
 ex_ind fun f ts ps ih he pos hn => l17Names_of (.mk f ts ps) he pos hn fun p hp pos hn => ih p hp (Nat.le_trans (eparts_wt (a := .mk f ts ps) hp) he) pos hn
theorem l17Node_c : ∀ e : Ex, e.wt ≤ 1048576 → e.form.forms = true → ∀ pos, nodeSP e pos :=
 ex_ind fun f ts ps ih he hf pos => l17Node_of (.mk f ts ps) he hf (fun p hp hpf pos => ih p hp (Nat.le_trans (eparts_wt (a := .mk f ts ps) hp) he) hpf pos) pos
noncomputable def specOk (e : Ex) (pos : Bool) : Bool := e.form.good && decide (e.nodes ≤ 60) && nodeS e pos && dec ((namesS e pos).Nodup ∧ ∀ n ∈ namesS e pos, n ∉ putSs [] (vf e.form []))
set_option maxHeartbeats 2000000 in
theorem l17Good_c (e : Ex) (he : e.wt ≤ 1048576) (pos : Bool) : FC Tryz.prog 83 [exD e, bD pos] [bD (specOk e pos)] := by
 have hv : specOk e pos = (e.form.good && decide (e.nodes ≤ 60) && nodeS e pos && dec ((namesS e pos).Nodup ∧ ∀ n ∈ namesS e pos, n ∉ putSs [] (vf e.form []))) := rfl
 have HN := l17Size_c e (by omega) 60 (by omega) (by omega)
 have hs : decide (manyE e 60 ≤ 60) = decide (e.nodes ≤ 60) := manyE_le e 60
 have hfw := form_wt e
 have HG := l8Good_c e.form (by omega)
 simp only [exD, exC_eq, fmD, fmC_eq] at HN HG ⊢
 cases hg : e.form.good
 ·rw [hg, Bool.false_and, Bool.false_and, Bool.false_and] at hv
  rw [hv]
  rw [hg] at HG
  refine FC_of Tryz.call83 Tryz.func83 rfl (by kernel_rfl) (by simp only [rd, List.map_cons, List.map_nil, List.length_cons, List.length_nil, Tryz.ntmps83]; omega) ?_
  simp -implicitDefEqProofs only [go_sem, Tryz.results83]
  refine callF (HG) (by simp -implicitDefEqProofs only [go_sem]) ?_
  simp -implicitDefEqProofs only [go_sem]
 ·rw [hg, Bool.true_and] at hv
  rw [hg] at HG
  cases hn : decide (e.nodes ≤ 60)
  ·have hs2 : decide (60 < manyE e 60) = true := by rw [hn] at hs; rw [decide_eq_true_eq]; rw [decide_eq_false_iff_not] at hs; omega
   rw [hn, Bool.false_and, Bool.false_and] at hv
   rw [hv]
   refine FC_of Tryz.call83 Tryz.func83 rfl (by kernel_rfl) (by simp only [rd, List.map_cons, List.map_nil, List.length_cons, List.length_nil, Tryz.ntmps83]; omega) ?_
   simp -implicitDefEqProofs only [go_sem, Tryz.results83]
   refine callF (HG) (by simp -implicitDefEqProofs only [go_sem]) ?_
   simp -implicitDefEqProofs only [go_sem]
   refine callF (HN) (by simp -implicitDefEqProofs only [go_sem, hs2]) ?_
   simp -implicitDefEqProofs only [go_sem, hs2]
  ·have hs2 : decide (60 < manyE e 60) = false := by rw [hn] at hs; rw [decide_eq_false_iff_not]; rw [decide_eq_true_eq] at hs; omega
   rw [hn, Bool.true_and] at hv
   have HD := l17Node_c e he (gforms' hg) pos
   unfold nodeSP at HD
   simp only [exD, exC_eq] at HD
   cases hnd : nodeS e pos
   ·rw [hnd, Bool.false_and] at hv
    rw [hv]
    rw [hnd] at HD
    refine FC_of Tryz.call83 Tryz.func83 rfl (by kernel_rfl) (by simp only [rd, List.map_cons, List.map_nil, List.length_cons, List.length_nil, Tryz.ntmps83]; omega) ?_
    simp -implicitDefEqProofs only [go_sem, Tryz.results83]
    refine callF (HG) (by simp -implicitDefEqProofs only [go_sem]) ?_
    simp -implicitDefEqProofs only [go_sem]
    refine callF (HN) (by simp -implicitDefEqProofs only [go_sem, hs2]) ?_
    simp -implicitDefEqProofs only [go_sem, hs2]
    refine callF (HD) (by simp -implicitDefEqProofs only [go_sem]) ?_
    simp -implicitDefEqProofs only [go_sem]
   ·rw [hnd, Bool.true_and] at hv
    rw [hnd] at HD
    have HM := l17Names_c e he pos hnd
    have HF := l8Free_c e.form (gforms' hg) (by omega)
    have hnl := namesS_len e pos
    have hen := enodes_wt e
    generalize namesS e pos = ns at hv HM hnl
    generalize putSs [] (vf e.form []) = V at hv HF
    simp only [exD, exC_eq, fmD, fmC_eq] at HM HF
    refine FC_ofN Tryz.call83 Tryz.func83 rfl (by kernel_rfl) (by simp only [rd, List.map_cons, List.map_nil, List.length_cons, List.length_nil, Tryz.ntmps83]; omega) ?_
    simp -implicitDefEqProofs only [go_sem, Tryz.results83]
    refine callF (HG) (by simp -implicitDefEqProofs only [go_sem]) ?_
    simp -implicitDefEqProofs only [go_sem]
    refine callF (HN) (by simp -implicitDefEqProofs only [go_sem, hs2]) ?_
    simp -implicitDefEqProofs only [go_sem, hs2]
    refine callF (HD) (by simp -implicitDefEqProofs only [go_sem]) ?_
    simp -implicitDefEqProofs only [go_sem]
    refine callFr (HM) (by simp -implicitDefEqProofs only [go_sem]) ?_
    simp -implicitDefEqProofs only [go_sem]
    refine callFr (HF) (by simp -implicitDefEqProofs only [go_sem]) ?_
    simp -implicitDefEqProofs only [go_sem]
    refine loop_rule (fun k : Nat => hd [(5, .one (.rn (strS ns))), (6, .one (.rn (strS V))), (7, vI k)] [] []) (fun k => k ≤ ns.length ∧ (ns.take k).Nodup ∧ ∀ n ∈ ns.take k, n ∉ V) (fun k => ns.length - k) 0 (weak_hd ?_) ⟨Nat.zero_le _, List.nodup_nil, by simp⟩ ?_
    ·simp -implicitDefEqProofs only [go_sem]
    ·rintro k ⟨hk, hT, hT2⟩
     by_cases hlt : k < ns.length
     ·have H1 := l2In_c (ns.take k) ns[k]
      have H2 := l2In_c V ns[k]
      have eT : strS (ns.take k) = .sl 1 ((ns.map fun s => [T.str s]).take k) := by unfold strS; rw [List.map_take]
      rw [eT] at H1
      cases h1 : (ns.take k).contains ns[k]
      ·rw [h1] at H1
       cases h2 : V.contains ns[k]
       ·rw [h2] at H2
        simp -implicitDefEqProofs only [go_sem, hlt]
        refine drawn (by kernel_rfl) ?_
        simp -implicitDefEqProofs only [go_sem, getD_at, hlt]
        refine ⟨hk, ?_⟩
        refine dCallF (H1) (by simp -implicitDefEqProofs only [go_sem, getD_at, hlt]) ?_
        simp -implicitDefEqProofs only [go_sem, getD_at, hlt]
        refine gCallF (H2) (by simp -implicitDefEqProofs only [go_sem]) ?_
        simp -implicitDefEqProofs only [go_sem]
        refine ⟨by kernel_rfl, k + 1, ⟨hlt, ?_, ?_⟩, by omega, weak_hd ?_⟩
        ·rw [List.take_succ_eq_append_getElem hlt, List.nodup_append]
         refine ⟨hT, by simp, ?_⟩
         rintro a ha b hb rfl
         rw [List.mem_singleton] at hb
         subst hb
         rw [List.contains_iff_mem.2 ha] at h1
         cases h1
        ·intro n hn
         rw [List.take_succ_eq_append_getElem hlt] at hn
         rcases List.mem_append.1 hn with hn | hn
         ·exact hT2 n hn
         ·rw [List.mem_singleton] at hn
          subst hn
          intro hm
          rw [List.contains_iff_mem.2 hm] at h2
          cases h2
        ·simp -implicitDefEqProofs only [go_sem]
         rw [wrap_s (by omega)]
       ·rw [h2] at H2
        have hbad : dec (ns.Nodup ∧ ∀ n ∈ ns, n ∉ V) = false := dec_no.2 fun h => h.2 _ (List.getElem_mem hlt) (List.contains_iff_mem.1 h2)
        rw [hv, hbad]
        simp -implicitDefEqProofs only [go_sem, hlt]
        refine drawn (by kernel_rfl) ?_
        simp -implicitDefEqProofs only [go_sem, getD_at, hlt]
        refine ⟨hk, ?_⟩
        refine dCallF (H1) (by simp -implicitDefEqProofs only [go_sem, getD_at, hlt]) ?_
        simp -implicitDefEqProofs only [go_sem, getD_at, hlt]
        refine gCallF (H2) (by simp -implicitDefEqProofs only [go_sem]) ?_
        simp -implicitDefEqProofs only [go_sem]
        kernel_rfl
      ·rw [h1] at H1
       have hbad : dec (ns.Nodup ∧ ∀ n ∈ ns, n ∉ V) = false := dec_no.2 fun h => by
        have h3 := h.1.sublist (List.take_sublist (k + 1) ns)
        rw [List.take_succ_eq_append_getElem hlt, List.nodup_append] at h3
        exact h3.2.2 _ (List.contains_iff_mem.1 h1) _ (by simp) rfl
       rw [hv, hbad]
       simp -implicitDefEqProofs only [go_sem, hlt]
       refine drawn (by kernel_rfl) ?_
       simp -implicitDefEqProofs only [go_sem, getD_at, hlt]
       refine ⟨hk, ?_⟩
       refine dCallF (H1) (by simp -implicitDefEqProofs only [go_sem, getD_at, hlt]) ?_
       simp -implicitDefEqProofs only [go_sem, getD_at, hlt]
       kernel_rfl
     ·rw [List.take_of_length_le (by omega)] at hT hT2
      rw [show dec (ns.Nodup ∧ ∀ n ∈ ns, n ∉ V) = true from dec_iff.2 ⟨hT, hT2⟩] at hv
      rw [hv]
      simp -implicitDefEqProofs only [go_sem, hlt]
end Go.Proofs.YtbccfiillleimaaGreat
namespace Go.Proofs.YtbccfiillleimaaGreat
set_option linter.unusedSimpArgs false
set_option linter.unusedVariables false
set_option linter.unusedSectionVars false
set_option maxRecDepth 4000
open Go.RowKit
theorem indexFuncStr_c (xs : List Str) (p : Str → Bool) (g : FuncId) (caps : List T) (H : ∀ x ∈ xs, FC Tryz.prog g (sD x :: caps.map .one) [bD (p x)]) : FC Tryz.prog 202 [.one (strS xs), .one (.fn g caps)] [iD (idxP xs p)] := by
 refine FC_wf (fun hw => ?_) Tryz.call202
 have hl : xs.length ≤ 9223372036854775807 := by simpa [wfDs, wfT] using hw.1.1
 refine FC_of Tryz.call202 Tryz.func202 rfl (by kernel_rfl) (by simp only [rd, List.map_cons, List.map_nil, List.length_cons, List.length_nil, Tryz.ntmps202]; omega) ?_
 simp -implicitDefEqProofs only [go_sem, Tryz.results202]
 refine loop_rule (fun k : Nat => hd [(0, vT (strS xs)), (1, vT (.fn g caps)), (7, vI xs.length), (8, vI k)] [] []) (fun k => k ≤ xs.length ∧ ∀ x ∈ xs.take k, p x = false) (fun k => xs.length - k) 0 (weak_hd ?_) ?_ ?_
 ·simp -implicitDefEqProofs only [go_sem]
 ·simp
 ·intro k ⟨hk, hr⟩
  by_cases hlt : k < xs.length
  ·simp -implicitDefEqProofs only [go_sem, getD_at, hlt, ne_eq]
   refine callF (H xs[k] (List.getElem_mem hlt)) (by simp -implicitDefEqProofs only [go_sem, ne_eq]) ?_
   simp -implicitDefEqProofs only [go_sem, ne_eq]
   refine ⟨fun h => ?_, fun h => ⟨k + 1, ⟨hlt, take_all_succ hlt hr h⟩, by omega, weak_hd (by simp -implicitDefEqProofs only [go_sem]; rw [wrap_s (by omega)])⟩⟩
   rw [idxP_found hlt hr h]
  ·simp -implicitDefEqProofs only [go_sem, hlt]
   rw [List.take_of_length_le (by omega)] at hr
   rw [idxP_none hr]
theorem containsFuncStr_c (xs : List Str) (p : Str → Bool) (g : FuncId) (caps : List T) (H : ∀ x ∈ xs, FC Tryz.prog g (sD x :: caps.map .one) [bD (p x)]) : FC Tryz.prog 147 [.one (strS xs), .one (.fn g caps)] [bD (xs.any p)] := by
 refine FC_of Tryz.call147 Tryz.func147 rfl (by kernel_rfl) (by simp only [rd, List.map_cons, List.map_nil, List.length_cons, List.length_nil, Tryz.ntmps147]; omega) ?_
 simp -implicitDefEqProofs only [go_sem, Tryz.results147]
 refine callF (indexFuncStr_c xs p g caps H) (by simp -implicitDefEqProofs only [go_sem]) ?_
 simp -implicitDefEqProofs only [go_sem]
 rw [idxP_any]
end Go.Proofs.YtbccfiillleimaaGreat
namespace Go.Proofs.YtbccfiillleimaaGreat
set_option linter.unusedSimpArgs false
set_option linter.unusedVariables false
set_option linter.unusedSectionVars false
set_option maxRecDepth 4000
open Go.RowKit
noncomputable def expOk (e : Ex) (pos : Bool) : Bool := decide (e.nodes ≤ 60) && e.form.good && (nodeI e pos []).1 && !((nodeI e pos []).2.any fun n => (putSs [] (vf e.form [])).contains n)
theorem isValidExp1_c (V : List Str) (s : Str) : FC Tryz.prog 148 [sD s, .one (.ptr [strS V])] [bD (V.contains s)] := by
 have H := containsStr_c V s
 refine FC_of Tryz.call148 Tryz.func148 rfl (by kernel_rfl) (by simp only [rd, List.map_cons, List.map_nil, List.length_cons, List.length_nil, Tryz.ntmps148]; omega) ?_
 simp -implicitDefEqProofs only [go_sem, Tryz.results148]
 refine callF (H) (by simp -implicitDefEqProofs only [go_sem]) ?_
 simp -implicitDefEqProofs only [go_sem]
theorem isValidExpansion_c (e : Ex) (he : e.wt ≤ 1048576) (pos : Bool) : FC Tryz.prog 87 [exD e, bD pos] [bD (expOk e pos)] := by
 have hv : expOk e pos = (decide (e.nodes ≤ 60) && e.form.good && (nodeI e pos []).1 && !((nodeI e pos []).2.any fun n => (putSs [] (vf e.form [])).contains n)) := rfl
 have HN := nodesOf_c e (by omega)
 have hs := sizeE_le e
 have hfw := form_wt e
 have HG := isValidFormula_c e.form (by omega)
 simp only [exD, exC_eq, fmD, fmC_eq] at HN HG ⊢
 cases hn : decide (e.nodes ≤ 60)
 ·have hs2 : decide (60 < sizeE e) = true := by rw [hn] at hs; rw [decide_eq_true_eq]; rw [decide_eq_false_iff_not] at hs; omega
  rw [hn, Bool.false_and, Bool.false_and, Bool.false_and] at hv
  rw [hv]
  refine FC_ofN Tryz.call87 Tryz.func87 rfl (by kernel_rfl) (by simp only [rd, List.map_cons, List.map_nil, List.length_cons, List.length_nil, Tryz.ntmps87]; omega) ?_
  simp -implicitDefEqProofs only [go_sem, Tryz.results87]
  refine callF (HN) (by simp -implicitDefEqProofs only [go_sem, hs2]) ?_
  simp -implicitDefEqProofs only [go_sem, hs2]
 ·have hs2 : decide (60 < sizeE e) = false := by rw [hn] at hs; rw [decide_eq_false_iff_not]; rw [decide_eq_true_eq] at hs; omega
  cases hg : e.form.good
  ·rw [hn, hg, Bool.true_and, Bool.false_and, Bool.false_and] at hv
   rw [hv]
   rw [hg] at HG
   refine FC_ofN Tryz.call87 Tryz.func87 rfl (by kernel_rfl) (by simp only [rd, List.map_cons, List.map_nil, List.length_cons, List.length_nil, Tryz.ntmps87]; omega) ?_
   simp -implicitDefEqProofs only [go_sem, Tryz.results87]
   refine callF (HN) (by simp -implicitDefEqProofs only [go_sem, hs2]) ?_
   simp -implicitDefEqProofs only [go_sem, hs2]
   refine callF (HG) (by simp -implicitDefEqProofs only [go_sem]) ?_
   simp -implicitDefEqProofs only [go_sem]
  ·rw [hn, hg, Bool.true_and, Bool.true_and] at hv
   rw [hg] at HG
   have HF := free_c e.form (gforms' hg) (by omega)
   have hen := enodes_wt e
   have HI := node_c e he (gforms' hg) pos [] (by simp only [List.length_nil]; omega)
   unfold nodeP at HI
   generalize (nodeI e pos []).1 = b at hv HI
   generalize (nodeI e pos []).2 = E at hv HI
   generalize putSs [] (vf e.form []) = V at hv HF
   have HA := containsFuncStr_c E (fun s => V.contains s) 148 [.ptr [strS V]] fun s _ => isValidExp1_c V s
   simp only [exD, exC_eq, fmD, fmC_eq, List.map_nil] at HI HF
   refine FC_ofN Tryz.call87 Tryz.func87 rfl (by kernel_rfl) (by simp only [rd, List.map_cons, List.map_nil, List.length_cons, List.length_nil, Tryz.ntmps87]; omega) ?_
   simp -implicitDefEqProofs only [go_sem, Tryz.results87]
   refine callF (HN) (by simp -implicitDefEqProofs only [go_sem, hs2]) ?_
   simp -implicitDefEqProofs only [go_sem, hs2]
   refine callF (HG) (by simp -implicitDefEqProofs only [go_sem]) ?_
   simp -implicitDefEqProofs only [go_sem]
   refine callFr (HF) (by simp -implicitDefEqProofs only [go_sem]) ?_
   simp -implicitDefEqProofs only [go_sem]
   refine callPL [4, 5, 6] [21, 22, 23] [17] [] (HI) (by decide) rfl (by simp -implicitDefEqProofs only [go_sem]) (by simp -implicitDefEqProofs only [go_sem]) (by simp -implicitDefEqProofs only [go_sem]) (by simp -implicitDefEqProofs only [go_sem]) ?_
   simp -implicitDefEqProofs only [go_sem]
   refine ⟨fun hb => ?_, fun hb => Or.inl (by rw [hv, hb]; rfl)⟩
   refine callF (HA) (by simp -implicitDefEqProofs only [go_sem]) ?_
   simp -implicitDefEqProofs only [go_sem]
   exact Or.inl (by rw [hv, hb]; rfl)
end Go.Proofs.YtbccfiillleimaaGreat
namespace Go.Proofs.YtbccfiillleimaaGreat
set_option linter.unusedSimpArgs false
set_option linter.unusedVariables false
set_option linter.unusedSectionVars false
set_option maxRecDepth 4000
open Go.RowKit
theorem put_nodes (n : Str) (t : Tm) : ∀ f : Fm, f.forms = true → (putF n t f).2 = true → (putF n t f).1.nodes = f.nodes := fm_ind fun o a v ps ih hf h => by
 have hP := putF_eq n t (.mk o a v ps)
 have hf0 := hf
 rw [Fm.forms_eq, Bool.and_eq_true] at hf0
 obtain ⟨hh, hps⟩ := hf0
 have hps : ∀ x ∈ ps, x.forms = true := List.all_eq_true.1 hps
 cases h3 : o == 3
 ·rw [hP] at h ⊢
  change (if (o == 3) = true then _ else if (isQ o && _) = true then _ else if (isQ o && _) = true then _ else (Fm.mk o (.mk [] []) v ((ps.takeWhile fun x => (putF n t x).2).map fun x => (putF n t x).1), ps.all fun x => (putF n t x).2) : Fm × Bool).2 = true at h
  change (if (o == 3) = true then _ else if (isQ o && _) = true then _ else if (isQ o && _) = true then _ else (Fm.mk o (.mk [] []) v ((ps.takeWhile fun x => (putF n t x).2).map fun x => (putF n t x).1), ps.all fun x => (putF n t x).2) : Fm × Bool).1.nodes = _
  rw [h3, if_neg (by simp)] at h ⊢
  split
  ·rfl
  ·rename_i h1
   rw [if_neg h1] at h
   split
   ·rename_i h2
    rw [if_pos h2] at h; cases h
   ·rename_i h2
    rw [if_neg h2] at h
    have h1 : (ps.all fun x => (putF n t x).2) = true := h
    have hA := List.all_eq_true.1 h1
    have hw : (ps.takeWhile fun x => (putF n t x).2) = ps := by
     have := (takeW_at (l := ps) (p := fun x => (putF n t x).2) (k := ps.length) (Nat.le_refl _) (by rw [List.take_length]; exact hA) fun h => absurd h (Nat.lt_irrefl _)).1
     rw [this, List.take_length]
    rw [hw]
    show (Fm.mk o (.mk [] []) v (ps.map fun x => (putF n t x).1)).nodes = _
    rw [Fm.nodes_eq, Fm.nodes_eq]
    show 1 + ((ps.map fun x => (putF n t x).1).map Fm.nodes).sum = 1 + (ps.map Fm.nodes).sum
    rw [List.map_map]
    show 1 + (ps.map fun x => (putF n t x).1.nodes).sum = _
    rw [List.map_congr_left (g := Fm.nodes) fun x hx => ih x hx (hps x hx) (hA x hx)]
 ·have ho3 : o = 3 := by simpa using h3
  obtain ⟨_, hp⟩ := here_atom (f := .mk o a v ps) hh ho3
  have hp : ps = [] := hp
  rw [hP]
  change (if (o == 3) = true then (Fm.mk o (putT (bnd n t) a) v [], (putT (bnd n t) a).atomOk) else _ : Fm × Bool).1.nodes = _
  rw [h3, if_pos rfl, hp, Fm.nodes_eq, Fm.nodes_eq]
  rfl
theorem same_comm {α : Type} (a b : α) : same a b = same b a := by
 rw [Bool.eq_iff_iff, same_iff, same_iff]; exact eq_comm
theorem sb_put (n : Str) (t : Tm) (q : Fm) (hq : q.good = true) (hn : varOk n = true) (ht : t.good = true) (g : Fm) : ((sbF n t q).2 && same (sbF n t q).1 g) = ((putF n t q).2 && same g (putF n t q).1) := by
 have htn : t.names = true := ((Bool.and_eq_true _ _).mp ht).2
 have hqf := gforms' hq
 have h1 := sub_good n t hn htn q hqf
 have h2 := sub_put n t hn htn q hqf
 unfold sbF
 rw [hq, hn, ht]
 simp only [Bool.and_self, Bool.true_and]
 rw [h1]
 cases hp : (putF n t q).2
 ·simp only [Bool.false_and, Bool.false_eq_true, if_false]
 ·have hpf := put_forms n t q hqf hp
  have hpg : (putF n t q).1.good = true := by
   unfold Fm.good at hq ⊢
   rw [Bool.and_eq_true, decide_eq_true_eq] at hq ⊢
   rw [put_nodes n t q hqf hp]
   exact ⟨hq.1, hpf⟩
  rw [hpg]
  simp only [Bool.and_self, if_true, Bool.true_and]
  rw [h2.2 hp hpf, same_comm]
theorem good_part {f q : Fm} (h : f.good = true) (hm : q ∈ f.parts) : q.good = true := by
 unfold Fm.good at h ⊢
 rw [Bool.and_eq_true, decide_eq_true_eq] at h ⊢
 have hp := part_nodes hm
 have := h.2
 rw [Fm.forms_eq, Bool.and_eq_true] at this
 exact ⟨by omega, List.all_eq_true.1 this.2 q hm⟩
theorem runL_spec : ∀ (L : List (Bool × (List Str → Bool × List Str))) (S : List (Bool × List Str)) (hl : L.length = S.length) (E : List Str), E.Nodup → (∀ i (h : i < L.length), L[i].1 = true → ∀ E : List Str, E.Nodup → ((L[i].2 E).1 = true ↔ (S[i]'(by omega)).1 = true ∧ (E ++ (S[i]'(by omega)).2).Nodup) ∧ ((L[i].2 E).1 = true → (L[i].2 E).2 = E ++ (S[i]'(by omega)).2)) →
  ((runL L E).1 = true ↔ (∀ i (h : i < L.length), L[i].1 = true ∧ (S[i]'(by omega)).1 = true) ∧ (E ++ (S.map Prod.snd).flatten).Nodup) ∧ ((runL L E).1 = true → (runL L E).2 = E ++ (S.map Prod.snd).flatten)
 | [], [], _, E, hE, _ => ⟨⟨fun _ => ⟨fun i h => by simp at h, by simpa using hE⟩, fun _ => rfl⟩, fun _ => by simp [runL]⟩
 | [], _ :: _, hl, _, _, _ => by simp at hl
 | _ :: _, [], hl, _, _, _ => by simp at hl
 | (c, g) :: L, (s, N) :: S, hl, E, hE, h => by
  have hl' : L.length = S.length := by simpa using hl
  cases hc : c
  ·have : runL ((false, g) :: L) E = (false, E) := rfl
   rw [this]
   refine ⟨⟨fun h => (by cases h), fun h => ?_⟩, fun h => (by cases h)⟩
   have := (h.1 0 (by simp)).1
   cases this
  ·subst hc
   obtain ⟨k1, k2⟩ := h 0 (by simp) rfl E hE
   have k1 : (g E).1 = true ↔ s = true ∧ (E ++ N).Nodup := k1
   have k2 : (g E).1 = true → (g E).2 = E ++ N := k2
   cases hg : (g E).1
   ·have e0 : runL ((true, g) :: L) E = (false, (g E).2) := by unfold runL; rw [if_pos rfl, hg, if_neg (by simp)]
    rw [e0]
    rw [hg] at k1
    refine ⟨⟨fun h => (by cases h), fun h => ?_⟩, fun h => (by cases h)⟩
    have h1 := (h.1 0 (by simp)).2
    have h2 : (E ++ N).Nodup := by
     have := h.2
     rw [List.map_cons, List.flatten_cons, ← List.append_assoc] at this
     exact (List.nodup_append.1 this).1
    exact (by have := k1.2 ⟨h1, h2⟩; cases this)
   ·have e0 : runL ((true, g) :: L) E = runL L (g E).2 := by unfold runL; rw [if_pos rfl, hg, if_pos rfl]; cases L <;> rfl
    rw [e0, k2 hg]
    obtain ⟨s1, n1⟩ := k1.1 hg
    obtain ⟨r1, r2⟩ := runL_spec L S hl' (E ++ N) n1 fun i hi hci E hE => by
     have := h (i + 1) (by simpa using hi) (by simpa using hci) E hE
     simpa using this
    rw [List.map_cons, List.flatten_cons, ← List.append_assoc]
    refine ⟨r1.trans ⟨fun ⟨a, b⟩ => ⟨fun i hi => ?_, b⟩, fun ⟨a, b⟩ => ⟨fun i hi => ?_, b⟩⟩, r2⟩
    ·cases i with
     | zero => exact ⟨rfl, s1⟩
     | succ i => exact a i (by simpa using hi)
    ·exact a (i + 1) (by simpa using hi)
end Go.Proofs.YtbccfiillleimaaGreat
namespace Go.Proofs.YtbccfiillleimaaGreat
set_option linter.unusedSimpArgs false
set_option linter.unusedVariables false
set_option linter.unusedSectionVars false
set_option maxRecDepth 4000
open Go.RowKit
theorem all_iff {ps : List Ex} (t : Nat → Ex → Bool) (s : Nat → Ex → Bool) : (ps.mapIdx fun i p => (t i p && s i p)).all id = true ↔ ∀ i (h : i < ps.length), t i ps[i] = true ∧ s i ps[i] = true := by
 rw [List.all_eq_true]
 constructor
 ·intro h i hi
  have := h _ (List.getElem_mem (l := ps.mapIdx fun i p => (t i p && s i p)) (n := i) (by simpa using hi))
  simpa only [List.getElem_mapIdx, id, Bool.and_eq_true] using this
 ·intro h x hx
  obtain ⟨i, hi, rfl⟩ := List.getElem_of_mem hx
  have hi' : i < ps.length := by simpa using hi
  simp only [List.getElem_mapIdx, id, Bool.and_eq_true]
  exact h i hi'
theorem parts_spec (ps : List Ex) (t : Nat → Ex → Bool) (sg : Nat → Bool) (ih : ∀ i (h : i < ps.length), t i ps[i] = true → ∀ E : List Str, E.Nodup → ((nodeI ps[i] (sg i) E).1 = true ↔ nodeS ps[i] (sg i) = true ∧ (E ++ namesS ps[i] (sg i)).Nodup) ∧ ((nodeI ps[i] (sg i) E).1 = true → (nodeI ps[i] (sg i) E).2 = E ++ namesS ps[i] (sg i))) (E : List Str) (hE : E.Nodup) :
  ((runL (ps.mapIdx fun i p => (t i p, nodeI p (sg i))) E).1 = true ↔ (ps.mapIdx fun i p => (t i p && nodeS p (sg i))).all id = true ∧ (E ++ (ps.mapIdx fun i p => namesS p (sg i)).flatten).Nodup) ∧ ((runL (ps.mapIdx fun i p => (t i p, nodeI p (sg i))) E).1 = true → (runL (ps.mapIdx fun i p => (t i p, nodeI p (sg i))) E).2 = E ++ (ps.mapIdx fun i p => namesS p (sg i)).flatten) := by
 have h := runL_spec (ps.mapIdx fun i p => (t i p, nodeI p (sg i))) (ps.mapIdx fun i p => (nodeS p (sg i), namesS p (sg i))) (by simp) E hE fun i hi hc E hE => by
  have hi' : i < ps.length := by simpa using hi
  simp only [List.getElem_mapIdx] at hc ⊢
  exact ih i hi' hc E hE
 have em : (ps.mapIdx fun i p => (nodeS p (sg i), namesS p (sg i))).map Prod.snd = ps.mapIdx fun i p => namesS p (sg i) := by
  refine List.ext_getElem? fun i => ?_
  simp only [List.getElem?_map, List.getElem?_mapIdx, Option.map_map, Function.comp_def]
 rw [em] at h
 refine ⟨h.1.trans (and_congr_left fun _ => ?_), h.2⟩
 rw [all_iff]
 constructor
 ·intro a i hi
  have := a i (by simpa using hi)
  simpa only [List.getElem_mapIdx] using this
 ·intro a i hi
  have := a i (by simpa using hi)
  simpa only [List.getElem_mapIdx] using this
theorem node_spec : ∀ e : Ex, e.form.good = true → ∀ pos (E : List Str), E.Nodup → ((nodeI e pos E).1 = true ↔ nodeS e pos = true ∧ (E ++ namesS e pos).Nodup) ∧ ((nodeI e pos E).1 = true → (nodeI e pos E).2 = E ++ namesS e pos) := ex_ind fun f ts ps ih hg pos E hE => by
 rw [nodeI_eq, nodeS_eq, namesS_eq]
 have hg : f.good = true := hg
 have eF : (Ex.mk f ts ps).form = f := rfl
 have eT : (Ex.mk f ts ps).terms = ts := rfl
 have eP : (Ex.mk f ts ps).parts = ps := rfl
 simp only [eF, eT, eP]
 cases hq : isQ f.op
 ·have hst : strongE f pos = false := by unfold strongE; rw [hq]; rfl
  rw [hst]
  simp only [Bool.false_eq_true, if_false, List.nil_append]
  by_cases hc : ts.length = 0 ∧ ps.length = f.parts.length
  ·rw [if_pos hc]
   have h := parts_spec ps (tstN f) (fun i => sgn f i pos) (fun i hi ht E hE => ih ps[i] (List.getElem_mem hi) (by
    have hif : i < f.parts.length := by omega
    unfold tstN at ht
    rw [getD_eq hif] at ht
    rw [← same_iff.1 ht]
    exact good_part hg (List.getElem_mem hif)) _ E hE) E hE
   rw [show decide (ts.length = 0) = true by simp [hc.1], show decide (ps.length = f.parts.length) = true by simp [hc.2], Bool.true_and, Bool.true_and]
   have e1 : (fun (i : Nat) (p : Ex) => (same p.form (f.parts.getD i (mkF 0 [])) && nodeS p (sgn f i pos))) = fun i p => (tstN f i p && nodeS p (sgn f i pos)) := by
    funext i p; unfold tstN; rw [same_comm]
   rw [e1]
   exact h
  ·rw [if_neg hc]
   refine ⟨⟨fun h => (by cases h), fun h => ?_⟩, fun h => (by cases h)⟩
   have h := h.1
   simp only [Bool.and_eq_true, decide_eq_true_eq] at h
   exact absurd h.1 hc
 ·obtain ⟨q, hp, hqf⟩ := q_parts hq (gforms' hg)
  have hqg : q.good = true := good_part hg (by rw [hp]; simp)
  have hvar : varOk f.var = true := by
   have := gforms' hg
   rw [Fm.forms_eq, Bool.and_eq_true] at this
   exact here_q this.1 hq
  have esg : (fun (i : Nat) (p : Ex) => namesS p (sgn f i pos)) = fun i p => namesS p pos := by funext i p; rw [sgn_q hq]
  have hse : strongE f pos = ((f.op == 8) == pos) := by unfold strongE; rw [hq, Bool.true_and]
  simp only [if_true]
  rw [esg]
  have core : TOk ts → ts.length = ps.length → ∀ E1 : List Str, E1.Nodup → ((runL (ps.mapIdx fun i p => (tstQ f ts i p, nodeI p pos)) E1).1 = true ↔ (ps.mapIdx fun i p => (tstS f ts i p && nodeS p pos)).all id = true ∧ (E1 ++ (ps.mapIdx fun i p => namesS p pos).flatten).Nodup) ∧ ((runL (ps.mapIdx fun i p => (tstQ f ts i p, nodeI p pos)) E1).1 = true → (runL (ps.mapIdx fun i p => (tstQ f ts i p, nodeI p pos)) E1).2 = E1 ++ (ps.mapIdx fun i p => namesS p pos).flatten) := fun hT hl E1 hE1 => by
   have et : ∀ i (h : i < ps.length), tstQ f ts i ps[i] = tstS f ts i ps[i] := fun i hi => by
    have hit : i < ts.length := by omega
    obtain ⟨g1, g2⟩ := hT i hit
    have hpq : f.parts.getD 0 (mkF 0 []) = q := by
     have hp : f.parts = [q] := hp
     rw [hp]; rfl
    unfold tstQ tstS
    rw [getD_eq hit, hpq, sb_put f.var ts[i] q hqg hvar g1, g1, g2]
    simp only [Bool.not_false, Bool.and_self, Bool.true_and]
   have em : (ps.mapIdx fun i p => (tstQ f ts i p, nodeI p pos)) = ps.mapIdx fun i p => (tstS f ts i p, nodeI p pos) := by
    refine List.ext_getElem (by simp) fun i h1 h2 => ?_
    simp only [List.getElem_mapIdx]
    rw [et i (by simpa using h1)]
   rw [em]
   refine parts_spec ps (tstS f ts) (fun _ => pos) (fun i hi ht E hE => ih ps[i] (List.getElem_mem hi) ?_ _ E hE) E1 hE1
   have hit : i < ts.length := by omega
   have hpq : f.parts.getD 0 (mkF 0 []) = q := by
    have hp : f.parts = [q] := hp
    rw [hp]; rfl
   unfold tstS at ht
   rw [getD_eq hit, hpq] at ht
   simp only [Bool.and_eq_true] at ht
   rw [same_iff.1 ht.2]
   unfold Fm.good at hqg ⊢
   rw [Bool.and_eq_true, decide_eq_true_eq] at hqg ⊢
   rw [put_nodes _ _ q hqf ht.1.2]
   exact ⟨hqg.1, put_forms _ _ q hqf ht.1.2⟩
  have hTS : ts.length = ps.length → (ps.mapIdx fun i p => (tstS f ts i p && nodeS p pos)).all id = true → TOk ts := fun hl h k hk => by
   have h := (all_iff (tstS f ts) (fun _ p => nodeS p pos)).1 h k (by omega)
   have h := h.1
   unfold tstS at h
   rw [getD_eq hk] at h
   simp only [Bool.and_eq_true, Bool.not_eq_true'] at h
   exact ⟨h.1.1.1, h.1.1.2⟩
  unfold termsI
  simp only [eF, eT, eP]
  cases hd : dec (TOk ts)
  ·rw [if_neg (by simp)]
   simp only [Bool.false_eq_true, if_false, false_iff, false_implies, and_true]
   rintro ⟨h1, _⟩
   simp only [Bool.and_eq_true, decide_eq_true_eq] at h1
   exact dec_no.1 hd (hTS h1.1.1 h1.2)
  ·have hT : TOk ts := dec_iff.1 hd
   rw [if_pos rfl, ← hse]
   cases hst : strongE f pos
   ·simp only [Bool.false_eq_true, if_false, Bool.not_false, Bool.true_or, Bool.and_true, List.nil_append]
    by_cases hl : ps.length = ts.length
    ·have hl' : ts.length = ps.length := hl.symm
     rw [show decide (ps.length = ts.length) = true by simp [hl], show decide (ts.length = ps.length) = true by simp [hl'], if_pos rfl, Bool.true_and]
     exact core hT hl' E hE
    ·rw [show decide (ps.length = ts.length) = false by simp [hl], show decide (ts.length = ps.length) = false by simp; omega]
     simp
   ·simp only [if_true, Bool.not_true, Bool.false_or]
    have hbad : ts.length ≠ 1 → ∀ X : Prop, ¬ ((decide (ts.length = ps.length) && (decide (ts.length = 1) && varOk (ts.getD 0 Tm.zero).name) && (ps.mapIdx fun i p => (tstS f ts i p && nodeS p pos)).all id) = true ∧ X) := fun h X hh => by
     have := hh.1
     simp only [Bool.and_eq_true, decide_eq_true_eq] at this
     exact h this.1.2.1
    match ts, hT, core, hbad with
    | [], _, _, hbad => exact ⟨⟨fun h => (by cases h), fun h => absurd h (hbad (by simp) _)⟩, fun h => (by cases h)⟩
    | _ :: _ :: _, _, _, hbad => exact ⟨⟨fun h => (by cases h), fun h => absurd h (hbad (by simp) _)⟩, fun h => (by cases h)⟩
    | [t], hT, core, _ =>
     have e0 : ([t].getD 0 Tm.zero) = t := rfl
     simp only [e0, List.length_singleton, decide_true, Bool.true_and]
     cases hv : varOk t.name
     ·simp only [Bool.false_and, Bool.false_eq_true, if_false, Bool.and_false, false_and, iff_false, not_false_eq_true, false_implies, and_self]
     ·cases hcn : E.contains t.name
      ·have hn : t.name ∉ E := fun hm => by rw [List.contains_iff_mem.2 hm] at hcn; cases hcn
       have hE1 : (E ++ [t.name]).Nodup := by
        rw [List.nodup_append]
        refine ⟨hE, by simp, ?_⟩
        rintro a ha b hb rfl
        rw [List.mem_singleton] at hb
        subst hb; exact hn ha
       by_cases hl : ps.length = 1
       ·simp only [Bool.true_and, Bool.not_false, if_true, hl, decide_true, Bool.and_true]
        have := core hT hl.symm (E ++ [t.name]) hE1
        rw [List.append_assoc] at this
        exact this
       ·have hl2 : ¬ 1 = ps.length := fun h => hl h.symm
        simp only [Bool.true_and, Bool.not_false, if_true, hl, hl2, decide_false, Bool.false_eq_true, if_false, Bool.false_and, false_and, iff_false, not_false_eq_true, false_implies, and_self]
      ·simp only [Bool.not_true, Bool.and_false, Bool.false_eq_true, if_false, false_iff, false_implies, and_true]
       rintro ⟨_, h⟩
       have hm : t.name ∈ E := List.contains_iff_mem.1 hcn
       have := (List.nodup_append.1 h).2.2 _ hm t.name (by simp)
       exact this rfl
theorem exp_spec (e : Ex) (pos : Bool) : expOk e pos = specOk e pos := by
 unfold expOk specOk
 cases hg : e.form.good
 ·simp
 ·obtain ⟨h1, h2⟩ := node_spec e hg pos [] List.nodup_nil
  rw [List.nil_append] at h1 h2
  cases hn : decide (e.nodes ≤ 60)
  ·simp
  ·simp only [Bool.true_and]
   rw [Bool.eq_iff_iff, Bool.and_eq_true, Bool.and_eq_true, h1, dec_iff]
   constructor
   ·rintro ⟨⟨a, b⟩, c⟩
    refine ⟨a, b, fun n hn hm => ?_⟩
    rw [h2 (h1.2 ⟨a, b⟩), Bool.not_eq_true', List.any_eq_false] at c
    exact c n hn (List.contains_iff_mem.2 hm)
   ·rintro ⟨a, b, c⟩
    refine ⟨⟨a, b⟩, ?_⟩
    rw [h2 (h1.2 ⟨a, b⟩), Bool.not_eq_true', List.any_eq_false]
    exact fun n hn hm => c n hn (List.contains_iff_mem.1 hm)
end Go.Proofs.YtbccfiillleimaaGreat
namespace Go.Proofs.YtbccfiillleimaaGreat
set_option linter.unusedSimpArgs false
set_option linter.unusedVariables false
set_option linter.unusedSectionVars false
set_option maxRecDepth 4000
open Go.RowKit
theorem map_mapIdx' {α β γ : Type} (f : β → γ) (g : Nat → α → β) (l : List α) : (l.mapIdx g).map f = l.mapIdx fun i a => f (g i a) := List.ext_getElem (by simp) fun i h1 h2 => by simp
theorem nodeS_len {e : Ex} {pos : Bool} (h : nodeS e pos = true) : (isQ e.form.op = true → e.terms.length = e.parts.length) ∧ (isQ e.form.op = false → e.parts.length = e.form.parts.length) := by
 rw [nodeS_eq] at h
 cases hq : isQ e.form.op
 ·rw [hq, if_neg (by simp)] at h
  simp only [Bool.and_eq_true, decide_eq_true_eq] at h
  exact ⟨fun h => (by cases h), fun _ => h.1.2⟩
 ·rw [hq, if_pos rfl] at h
  simp only [Bool.and_eq_true, decide_eq_true_eq] at h
  exact ⟨fun _ => h.1.1, fun h => (by cases h)⟩
theorem strong_one {e : Ex} {pos : Bool} (h : nodeS e pos = true) (hs : strongE e.form pos = true) : e.terms.length = 1 ∧ e.parts.length = 1 := by
 have h1 := (nodeS_parts h).2 hs
 have hq : isQ e.form.op = true := by unfold strongE at hs; rw [Bool.and_eq_true] at hs; exact hs.1
 have : e.terms.length = e.parts.length := by
  rw [nodeS_eq, hq, if_pos rfl] at h
  simp only [Bool.and_eq_true, decide_eq_true_eq] at h
  exact h.1.1
 omega
theorem mapIdx_congr {α β : Type} (ps : List α) (g h : Nat → α → β) (H : ∀ i (hi : i < ps.length), g i ps[i] = h i ps[i]) : ps.mapIdx g = ps.mapIdx h := by
 refine List.ext_getElem (by simp) fun i h1 h2 => ?_
 have hi : i < ps.length := by simpa using h1
 simp only [List.getElem_mapIdx]
 exact H i hi
theorem nodup_inj {α : Type} {l : List α} (h : l.Nodup) {i j : Nat} (hi : i < l.length) (hj : j < l.length) (e : l[i] = l[j]) : i = j := by
 rw [List.nodup_iff_pairwise_ne, List.pairwise_iff_getElem] at h
 rcases Nat.lt_trichotomy i j with h1 | h1 | h1
 ·exact absurd e (h i j hi hj h1)
 ·exact h1
 ·exact absurd e.symm (h j i hj hi h1)
end Go.Proofs.YtbccfiillleimaaGreat
namespace Go.Proofs.YtbccfiillleimaaGreat
set_option linter.unusedSimpArgs false
set_option linter.unusedVariables false
set_option linter.unusedSectionVars false
set_option maxRecDepth 4000
open Go.RowKit
abbrev Eg := Str × List Str
def eigI : Ex → Bool → List Str → List Eg := Ex.fold fun f ts ps rs pos ab => ((ps.zip rs).mapIdx fun i q =>
 if strongE f pos = true then ((ts.getD i Tm.zero).name, ab) :: q.2 (sgn f i pos) ab else q.2 (sgn f i pos) (if isQ f.op = true then ab ++ putSs [] (voI (ts.getD i Tm.zero)) else ab)).flatten
theorem eigI_eq (e : Ex) (pos : Bool) (ab : List Str) : eigI e pos ab = (e.parts.mapIdx fun i p =>
 if strongE e.form pos = true then ((e.terms.getD i Tm.zero).name, ab) :: eigI p (sgn e.form i pos) ab else eigI p (sgn e.form i pos) (if isQ e.form.op = true then ab ++ putSs [] (voI (e.terms.getD i Tm.zero)) else ab)).flatten := by
 cases e with
 | mk f ts ps =>
  conv => lhs; unfold eigI; rw [Ex.fold_eq]
  simp only [zip_map]
  rfl
def pairS : Ex → Bool → List Str → List (Str × Str) := Ex.fold fun f ts ps rs pos ab => (if strongE f pos = true then ab.map fun x => (x, (ts.getD 0 Tm.zero).name) else []) ++
 ((ps.zip rs).mapIdx fun i q => q.2 (sgn f i pos) (if (isQ f.op && !strongE f pos) = true then putSs ab (voS (ts.getD i Tm.zero)) else ab)).flatten
theorem pairS_eq (e : Ex) (pos : Bool) (ab : List Str) : pairS e pos ab = (if strongE e.form pos = true then ab.map fun x => (x, (e.terms.getD 0 Tm.zero).name) else []) ++
 (e.parts.mapIdx fun i p => pairS p (sgn e.form i pos) (if (isQ e.form.op && !strongE e.form pos) = true then putSs ab (voS (e.terms.getD i Tm.zero)) else ab)).flatten := by
 cases e with
 | mk f ts ps =>
  conv => lhs; unfold pairS; rw [Ex.fold_eq]
  simp only [zip_map]
  rfl
theorem eigI_names : ∀ (e : Ex) (pos : Bool) (ab : List Str), nodeS e pos = true → (eigI e pos ab).map Prod.fst = namesS e pos := ex_ind fun f ts ps ih pos ab hn => by
 rw [eigI_eq, namesS_eq, List.map_flatten, map_mapIdx']
 have hp := (nodeS_parts hn).1
 have eF : (Ex.mk f ts ps).form = f := rfl
 have eT : (Ex.mk f ts ps).terms = ts := rfl
 have eP : (Ex.mk f ts ps).parts = ps := rfl
 simp only [eF, eT, eP] at hp ⊢
 cases hs : strongE f pos
 ·simp only [Bool.false_eq_true, if_false, List.nil_append]
  congr 1
  exact mapIdx_congr _ _ _ fun i hi => ih ps[i] (List.getElem_mem hi) _ _ (hp i hi)
 ·obtain ⟨_, h1⟩ := strong_one hn hs
  have h1 : ps.length = 1 := h1
  obtain ⟨p, rfl⟩ := List.length_eq_one_iff.1 h1
  have h0 := ih p (by simp) (sgn f 0 pos) ab (hp 0 (by simp))
  simp only [if_true, List.mapIdx_cons, List.mapIdx_nil, List.flatten_cons, List.flatten_nil, List.append_nil, List.map_cons, h0]
  rfl
theorem mem_putSs' {l ss : List Str} {x : Str} : x ∈ putSs l ss ↔ x ∈ l ∨ x ∈ ss := (putSs_mem ss l x).trans or_comm
theorem good_names {a : Tm} (h : a.good = true) : a.names = true := by unfold Tm.good at h; rw [Bool.and_eq_true] at h; exact h.2
theorem terms_names {e : Ex} {pos : Bool} (h : nodeS e pos = true) (hq : isQ e.form.op = true) : ∀ i, i < e.terms.length → (e.terms.getD i Tm.zero).good = true := fun i hi => by
 rw [nodeS_eq, hq, if_pos rfl] at h
 simp only [Bool.and_eq_true, decide_eq_true_eq] at h
 obtain ⟨⟨hl, _⟩, h⟩ := h
 have hi' : i < e.parts.length := by omega
 have := (all_iff (ps := e.parts) (fun i p => tstS e.form e.terms i p) (fun i p => nodeS p pos)).1 h i hi'
 have := this.1
 unfold tstS at this
 simp only [Bool.and_eq_true] at this
 exact this.1.1.1
theorem pairS_mem : ∀ (e : Ex) (pos : Bool) (ab ab' : List Str), nodeS e pos = true → (∀ x, x ∈ ab' ↔ x ∈ ab) → ∀ x y, (x, y) ∈ pairS e pos ab' ↔ ∃ a, (y, a) ∈ eigI e pos ab ∧ x ∈ a := ex_ind fun f ts ps ih pos ab ab' hn hab x y => by
 have hp := (nodeS_parts hn).1
 have hl := (nodeS_len hn).1
 have hg := terms_names hn
 have hso := strong_one hn
 rw [pairS_eq, eigI_eq]
 have eF : (Ex.mk f ts ps).form = f := rfl
 have eT : (Ex.mk f ts ps).terms = ts := rfl
 have eP : (Ex.mk f ts ps).parts = ps := rfl
 simp only [eF, eT, eP] at hp hl hg hso ⊢
 have mf : ∀ {β : Type} (g : Nat → Ex → List β) (z : β), z ∈ (ps.mapIdx g).flatten ↔ ∃ i, ∃ h : i < ps.length, z ∈ g i ps[i] := fun g z => by
  rw [List.mem_flatten]
  constructor
  ·rintro ⟨l, hl, hz⟩
   obtain ⟨i, hi, rfl⟩ := List.getElem_of_mem hl
   have hi' : i < ps.length := by simpa using hi
   rw [List.getElem_mapIdx] at hz
   exact ⟨i, hi', hz⟩
  ·rintro ⟨i, hi, hz⟩
   exact ⟨g i ps[i], by rw [List.mem_iff_getElem]; exact ⟨i, by simpa using hi, by simp⟩, hz⟩
 cases hs : strongE f pos
 ·simp only [Bool.false_eq_true, if_false, List.nil_append, Bool.not_false, Bool.and_true]
  rw [mf]
  constructor
  ·rintro ⟨i, hi, hm⟩
   have hab2 : ∀ z, z ∈ (if isQ f.op = true then putSs ab' (voS (ts.getD i Tm.zero)) else ab') ↔ z ∈ (if isQ f.op = true then ab ++ putSs [] (voI (ts.getD i Tm.zero)) else ab) := fun z => by
    cases hq : isQ f.op
    ·simpa using hab z
    ·have hv := vo_names _ (good_names (hg hq i (by have := hl hq; omega)))
     simp only [if_true, mem_putSs', List.mem_append, hv.1, hab z]
     simp
   obtain ⟨a, h1, h2⟩ := (ih ps[i] (List.getElem_mem hi) (sgn f i pos) _ _ (hp i hi) hab2 x y).1 hm
   exact ⟨a, (mf _ _).2 ⟨i, hi, h1⟩, h2⟩
  ·rintro ⟨a, hm, hx⟩
   obtain ⟨i, hi, h1⟩ := (mf _ _).1 hm
   have hab2 : ∀ z, z ∈ (if isQ f.op = true then putSs ab' (voS (ts.getD i Tm.zero)) else ab') ↔ z ∈ (if isQ f.op = true then ab ++ putSs [] (voI (ts.getD i Tm.zero)) else ab) := fun z => by
    cases hq : isQ f.op
    ·simpa using hab z
    ·have hv := vo_names _ (good_names (hg hq i (by have := hl hq; omega)))
     simp only [if_true, mem_putSs', List.mem_append, hv.1, hab z]
     simp
   exact ⟨i, hi, (ih ps[i] (List.getElem_mem hi) (sgn f i pos) _ _ (hp i hi) hab2 x y).2 ⟨a, h1, hx⟩⟩
 ·obtain ⟨h2, h1⟩ := hso hs
  obtain ⟨p, rfl⟩ := List.length_eq_one_iff.1 h1
  have h0 := ih p (by simp) (sgn f 0 pos) ab ab' (hp 0 (by simp)) hab x y
  simp only [if_true, Bool.not_true, Bool.and_false, Bool.false_eq_true, if_false, List.mapIdx_cons, List.mapIdx_nil, List.flatten_cons, List.flatten_nil, List.append_nil, List.mem_append, List.mem_map, List.mem_cons, h0]
  constructor
  ·rintro (⟨z, hz, e⟩ | ⟨a, h3, h4⟩)
   ·cases e
    exact ⟨ab, Or.inl rfl, (hab _).1 hz⟩
   ·exact ⟨a, Or.inr h3, h4⟩
  ·rintro ⟨a, h3 | h3, h4⟩
   ·cases h3
    exact Or.inl ⟨x, (hab x).2 h4, rfl⟩
   ·exact Or.inr ⟨a, h3, h4⟩
def rdyI (L : List Eg) (out : List Str) (x : Eg) : Bool := !out.contains x.1 && !(L.any fun y => x.2.contains y.1 && !out.contains y.1)
def rdyS (N : List Str) (Pr : List (Str × Str)) (out : List Str) (n : Str) : Bool := !out.contains n && !(Pr.any fun p => p.2 == n && N.contains p.1 && !out.contains p.1)
theorem rdy_same {L : List Eg} {N : List Str} {Pr : List (Str × Str)} (hN : L.map Prod.fst = N) (hd : N.Nodup) (hP : ∀ x y, (x, y) ∈ Pr ↔ ∃ a, (y, a) ∈ L ∧ x ∈ a) (out : List Str) {z : Eg} (hz : z ∈ L) : rdyI L out z = rdyS N Pr out z.1 := by
 have huni : ∀ a, (z.1, a) ∈ L → a = z.2 := fun a ha => by
  rw [← hN] at hd
  obtain ⟨i, hi, e1⟩ := List.mem_iff_getElem.1 ha
  obtain ⟨j, hj, e2⟩ := List.mem_iff_getElem.1 hz
  have : i = j := nodup_inj hd (by simpa using hi) (by simpa using hj) (by simp [e1, e2])
  subst this
  rw [e1] at e2
  exact congrArg Prod.snd e2
 have key : (L.any fun y => z.2.contains y.1 && !out.contains y.1) = (Pr.any fun p => p.2 == z.1 && N.contains p.1 && !out.contains p.1) := by
  rw [Bool.eq_iff_iff, List.any_eq_true, List.any_eq_true]
  constructor
  ·rintro ⟨y, hy, h⟩
   rw [Bool.and_eq_true, List.contains_iff_mem] at h
   refine ⟨(y.1, z.1), (hP _ _).2 ⟨z.2, hz, h.1⟩, ?_⟩
   simp only [beq_self_eq_true, Bool.true_and, Bool.and_eq_true, List.contains_iff_mem]
   exact ⟨by rw [← hN]; exact List.mem_map_of_mem hy, h.2⟩
  ·rintro ⟨⟨x, y⟩, hp, h⟩
   simp only [Bool.and_eq_true, beq_iff_eq, List.contains_iff_mem] at h
   obtain ⟨⟨rfl, h1⟩, h2⟩ := h
   obtain ⟨a, h3, h4⟩ := (hP _ _).1 hp
   obtain rfl := huni a h3
   rw [← hN] at h1
   obtain ⟨w, hw, rfl⟩ := List.mem_map.1 h1
   exact ⟨w, hw, by rw [Bool.and_eq_true, List.contains_iff_mem]; exact ⟨h4, h2⟩⟩
 unfold rdyI rdyS
 rw [key]
end Go.Proofs.YtbccfiillleimaaGreat
namespace Go.Proofs.YtbccfiillleimaaGreat
set_option linter.unusedSimpArgs false
set_option linter.unusedVariables false
set_option linter.unusedSectionVars false
set_option maxRecDepth 4000
open Go.RowKit
theorem strongE_q {f : Fm} {pos : Bool} (hq : isQ f.op = true) : strongE f pos = ((f.op == 8) == pos) := by unfold strongE; rw [hq, Bool.true_and]
theorem specOk_node {e : Ex} {pos : Bool} (h : specOk e pos = true) : e.form.good = true ∧ nodeS e pos = true ∧ e.nodes ≤ 60 := by
 unfold specOk at h
 simp only [Bool.and_eq_true, decide_eq_true_eq] at h
 exact ⟨h.1.1.1, h.1.2, h.1.1.2⟩
end Go.Proofs.YtbccfiillleimaaGreat
namespace Go.Proofs.YtbccfiillleimaaGreat
set_option linter.unusedSimpArgs false
set_option linter.unusedVariables false
set_option linter.unusedSectionVars false
set_option maxRecDepth 4000
open Go.RowKit
variable {P : Program}
attribute [go_sem] tailQ_normal
end Go.Proofs.YtbccfiillleimaaGreat
namespace Go.Proofs.YtbccfiillleimaaGreat
set_option linter.unusedSimpArgs false
set_option linter.unusedVariables false
set_option linter.unusedSectionVars false
set_option maxRecDepth 4000
open Go.RowKit
set_option maxRecDepth 100000 in
theorem growStr_c (n : Nat) (hn : n ≤ 1099511627776) : FC Tryz.prog 245 [.one (.pin (.slice none 0 0) (.sl 1 [])), iD n] [.one (.sl 1 [])] := by
 refine ⟨Tryz.call245, fun w vs fp tp hv hnd => ?_⟩
 obtain ⟨v1, _, rfl, h1, hv⟩ := hv
 obtain ⟨v2, _, rfl, h2, hv⟩ := hv
 obtain ⟨rfl, rfl, rfl⟩ := hv
 have e1 : v1 = .slice none 0 0 := by
  have h : RepV w (fun b => b < w.heap.size ∧ ¬b ∈ []) (.pin (.slice none 0 0) (.sl 1 [])) v1 := h1
  unfold RepV at h; exact h.1
 have e2 : v2 = .int .i64 n := by
  have h : RepV w (fun b => b < w.heap.size ∧ ¬b ∈ []) (.int .i64 n) v2 := h2
  unfold RepV at h; exact h.1
 clear h1 h2
 subst e1 e2
 obtain ⟨i, hi, hz, hs, hby⟩ : ∃ i, Tryz.prog.info? 9 = some i ∧ i.zero = some (.string ⟨#[]⟩) ∧ i.size = 1 ∧ i.bytes = 16 := ⟨_, rfl, rfl, rfl, rfl⟩
 have g1 : ¬ ((n : Int) < 0) := by omega
 have g2 : wrap64 ((0 : Int) - 0) = 0 := by unfold wrap64; omega
 have g3 : wrap64 ((n : Int) - 0) = n := by unfold wrap64; omega
 by_cases h0 : n = 0
 ·subst h0
  go_enter Tryz.func245, Tryz.ntmps245
  go_wp2
  go_ret
  refine ⟨[.slice none 0 0], rfl, [], ⟨_, _, [], [], [], _, [], rfl, rfl, rfl, ⟨?_, rfl⟩, rfl, rfl, rfl⟩, List.nodup_nil, by simp, Bk.refl _ _⟩
  unfold OwnV
  exact ⟨none, 0, rfl, Nat.le_refl _, by simp, Or.inl ⟨rfl, rfl, rfl, rfl⟩⟩
 ·have g4 : (n : Int) > 0 := by omega
  have hrz := fun ty => Lib.run_append_nil_zeros (P := Tryz.prog) w 70 3 ty 9 i (.string ⟨#[]⟩) .i64 .i64 Tryz.underlying70 Tryz.underlying3 hi hz n (by omega) (by omega) (by omega) (by rw [hby]; omega)
  go_enter Tryz.func245, Tryz.ntmps245
  go_wp2_with (at_builtin; refine Lib.wpList_append_run _ rfl _ _ _ _ rfl _ _ rfl rfl _ _ (hrz _) ?_)
  go_ret
  have hge := grownCap_ge w n 0 9
  have hle := grownCap_le_maxLen w n 0 9 (by unfold maxLen; omega)
  generalize grownCap w n 0 9 = G at hge hle ⊢
  refine ⟨[.slice (some ⟨w.heap.size, 0, none⟩) 0 G], rfl, [w.heap.size], ⟨_, _, [], [w.heap.size], [], _, [], rfl, rfl, rfl, ⟨?_, rfl⟩, rfl, rfl, rfl⟩, by simp, by simp, ⟨rfl, rfl, rfl, ?_, fun k hk => ?_⟩⟩
  ·unfold OwnV
   refine ⟨_, G, rfl, Nat.zero_le _, by unfold maxLen at hle; omega, Or.inr ⟨w.heap.size, Builtin.zeroCells #[.string ⟨#[]⟩] n ++ Builtin.zeroCells #[.string ⟨#[]⟩] (G - n), 9, [], rfl, rfl, ?_, ?_, by unfold OwnRows; rfl⟩⟩
   ·show (w.heap.push _)[w.heap.size]? = _
    simp
   ·simp [size_zeroCells]; omega
  ·show w.heap.size ≤ (w.heap.push _).size
   rw [Array.size_push]; omega
  ·show (w.heap.push _)[k]? = _
   have hk : k < w.heap.size := by simpa using hk
   rw [Array.getElem?_push_lt hk, Array.getElem?_eq_getElem hk]
variable {P : Program}
def VDn (σ : St) : List V → List D → Prop
 | [], ds => ds = []
 | v :: vs, ds => ∃ d ds', ds = d :: ds' ∧ (VD σ v d ∨ ∃ s sz, v = .one (.nl s) ∧ d = .one (.pin (.slice none 0 0) (.sl sz []))) ∧ VDn σ vs ds'
theorem VD.rep1 {n0 : Nat → Prop} {N : Nat} {σ : St} {g : Gh} {a : Act} {w : World} (hR : Rel n0 N σ g a w) {x : V} {d : D} (h : VD σ x d) {v : Value} (hv : VR σ g w x v) : RepD w (· < w.heap.size) d v := by
 have : VDs σ [x] [d] := ⟨d, [], rfl, h, rfl⟩
 obtain ⟨_, _, e, h1, _⟩ := VDs.rep hR this (vs := [v]) ⟨v, [], rfl, hv, rfl⟩
 cases e
 exact h1
theorem VDn.rep {n0 : Nat → Prop} {N : Nat} {σ : St} {g : Gh} {a : Act} {w : World} (hR : Rel n0 N σ g a w) : ∀ {xs : List V} {ds : List D}, VDn σ xs ds → ∀ {vs : List Value}, VRl σ g w xs vs → RepDs w (· < w.heap.size) ds vs
 | [], ds, h, vs, hv => by rw [show ds = [] from h]; exact hv
 | x :: xs, ds, h, vs, hv => by
  obtain ⟨d, ds', rfl, h1, h2⟩ := h
  obtain ⟨v, vs', rfl, k1, k2⟩ := hv
  refine ⟨v, vs', rfl, ?_, VDn.rep hR h2 k2⟩
  rcases h1 with h1 | ⟨s, sz, rfl, rfl⟩
  ·exact VD.rep1 hR h1 k1
  ·have k1 : v = .slice none 0 0 := k1
   subst k1
   show RepV _ _ (.pin _ _) _
   unfold RepV
   refine ⟨rfl, ?_⟩
   unfold RepV
   exact ⟨none, 0, rfl, Nat.le_refl _, by simp, Or.inl rfl⟩
theorem sem_callFn {o : Oper} {σ : St} {x : Operand} {asx : Array Operand} {ts : Array TypeId} {f : FuncId} {cvs : List V} {d : Nat} {ds res : List D} (ho : o.op = .call ⟨.value x, asx, ts⟩) (hd : o.dst = some d)
  (h : FC P f ds res) (hc : calleeOf (σ.get P 0 x) = some (f, cvs)) (hv : VDn σ (σ.gets P asx ts ++ cvs) ds) (hf : freeE d 0 (resCells res) σ.ev) : StepSem P o σ (σ.callF d res) := by
 intro n0 N g a w hR hn hdN
 obtain ⟨vs, h1, h2⟩ := call_run hR ho hc h.1
 unfold Oper.wp
 rw [h1]
 refine (h.use (VDn.rep hR hv h2)).mono ?_
 rintro e w' ⟨us, fp, rfl, o1, o2, o3, hb⟩
 obtain ⟨g', k1, k2, k3⟩ := New.cells (σ := σ) (g := g) (NB := (w.heap.size ≤ ·)) (w' := w') d (resCells res) _ fp 0 σ.ev g [] (New.refl _ _ _ _ hR.slc) (fun e h1 h2 => absurd h1 h2) hf o1.cells o2 (fun b hb' => ⟨o3 b hb', by simp⟩)
 have hR' := hR.after hn hb k1
 refine ⟨g', ?_, Bk.of_below hb hn, k1.A0, k1.R0⟩
 have hp := hR'.put (some d) (x := tupV (resD d 0 res)) (v := resVal us) (tupV_vr (resD_vr d 0 o1 (k3 _ _ rfl)) (resD_tup d res 0)) (fun i hi => by cases hi; exact hdN d hd)
 rw [hd]
 exact hp
section
variable {ks : List Fr} {Q : Exit → St → Prop} {σ : St} {ops : Array Oper} {os : List Oper} {ty : TypeId} {ps : String} {af : Array Edge}
theorem callFn {d : Nat} {x : Operand} {asx : Array Operand} {ts : Array TypeId} {f : FuncId} {ds res : List D} (h : FC P f ds res) (hp : onSome (calleeOf (σ.get P 0 x)) fun p => p.1 = f ∧ VDn σ (σ.gets P asx ts ++ p.2) ds ∧ freeE d 0 (resCells res) σ.ev)
  (k : exo P ops os ks Q (σ.callF d res)) : exo P ops (⟨some d, .call ⟨.value x, asx, ts⟩, ty, ps, af, none⟩ :: os) ks Q σ := by
 obtain ⟨⟨f', cvs⟩, h1, rfl, h2, h3⟩ := onSome_ex hp
 exact exo_sem rfl rfl (sem_callFn rfl rfl h h1 h2 h3) k
end
theorem vdn_nl (σ : St) (s sz : Nat) (vs : List V) (ds : List D) : VDn σ (.one (.nl s) :: vs) (.one (.pin (.slice none 0 0) (.sl sz [])) :: ds) = VDn σ vs ds := propext ⟨fun h => by
 obtain ⟨d, ds', e, _, h⟩ := h
 obtain ⟨rfl, rfl⟩ := List.cons.inj e
 exact h, fun h => ⟨_, _, rfl, Or.inr ⟨_, _, rfl, rfl⟩, h⟩⟩
theorem vdn_t (σ : St) (t : T) (vs : List V) (ds : List D) : VDn σ (.one (.t t) :: vs) (.one t :: ds) = VDn σ vs ds := propext ⟨fun h => by
 obtain ⟨d, ds', e, _, h⟩ := h
 obtain ⟨rfl, rfl⟩ := List.cons.inj e
 exact h, fun h => ⟨_, _, rfl, Or.inl rfl, h⟩⟩
theorem vdn_nil (σ : St) : VDn σ [] [] = True := by unfold VDn; simp
def cLen (A B : List Str) : Nat → Nat
 | 0 => 0
 | 1 => A.length
 | _ => A.length + B.length
def cRow (A B : List Str) : Nat → List Str
 | 0 => []
 | 1 => A
 | _ => A ++ B
theorem cLen_0 (A B : List Str) : cLen A B 0 = 0 := rfl
theorem cLen_1 (A B : List Str) : cLen A B 1 = A.length := rfl
theorem cLen_2 (A B : List Str) : cLen A B 2 = A.length + B.length := rfl
theorem cRow_0 (A B : List Str) : cRow A B 0 = [] := rfl
theorem cRow_1 (A B : List Str) : cRow A B 1 = A := rfl
theorem cRow_2 (A B : List Str) : cRow A B 2 = A ++ B := rfl
set_option maxHeartbeats 1000000 in
theorem concatStr_c (A B : List Str) (hA : A.length + B.length ≤ 4194304) : FC Tryz.prog 204 [.one (.sl 1 [[strS A], [strS B]])] [.one (strS (A ++ B))] := by
 have hG := growStr_c (A.length + B.length) (by omega)
 have w1 : IntKind.i64.wrap ((A.length : Int) + (B.length : Int)) = ((A.length + B.length : Nat) : Int) := by rw [wrap_in (by omega) (by omega)]; omega
 have w0 : IntKind.i64.wrap (0 + (A.length : Int)) = ((A.length : Nat) : Int) := by rw [wrap_in (by omega) (by omega)]; omega
 have u1 : IntKind.i64.wrap 1 = 1 := rfl
 have u2 : IntKind.i64.wrap 2 = 2 := rfl
 have ha1 : A.length ≤ 4294967296 := by omega
 have ha2 : A.length + B.length ≤ 4294967296 := by omega
 refine FC_of Tryz.call204 Tryz.func204 rfl (by kernel_rfl) (by simp only [rd, List.map_cons, List.map_nil, List.length_cons, List.length_nil, Tryz.ntmps204]; omega) ?_
 simp -implicitDefEqProofs only [go_sem, Tryz.results204]
 refine loop_rule (fun k : Nat => hd [(0, vT (.sl 1 [[strS A], [strS B]])), (3, vI (cLen A B k)), (9, vT (.sl 1 [[strS A], [strS B]])), (10, vI 2), (11, vI k)] [] []) (fun k => k ≤ 2) (fun k => 2 - k) 0 (weak_hd ?_) (Nat.zero_le _) ?_
 ·simp -implicitDefEqProofs only [go_sem, cLen_0]
 ·intro k hk
  rcases (by omega : k = 0 ∨ k = 1 ∨ k = 2) with rfl | rfl | rfl
  ·simp -implicitDefEqProofs only [go_sem, cLen_0, w0]
   refine ⟨1, by omega, by omega, weak_hd ?_⟩
   simp -implicitDefEqProofs only [go_sem, cLen_1, u1]
  ·simp -implicitDefEqProofs only [go_sem, cLen_1, w1]
   refine ⟨2, by omega, by omega, weak_hd ?_⟩
   simp -implicitDefEqProofs only [go_sem, cLen_2, u2]
  ·simp -implicitDefEqProofs only [go_sem, cLen_2]
   refine callFn hG (by simp -implicitDefEqProofs only [go_sem, vdn_nl, vdn_t, vdn_nil]) ?_
   simp -implicitDefEqProofs only [go_sem]
   refine loop_rule (fun k : Nat => hd [(6, .one (.ow 768 0)), (25, vT (.sl 1 [[strS A], [strS B]])), (26, vI 2), (27, vI k)] [] [(768, ⟨true, 1, (cRow A B k).map fun s => [.str s], 0, true⟩)]) (fun k => k ≤ 2) (fun k => 2 - k) 0 (weak_hd ?_) (Nat.zero_le _) ?_
   ·simp -implicitDefEqProofs only [go_sem, cRow_0, List.map_nil]
   ·intro k hk
    rcases (by omega : k = 0 ∨ k = 1 ∨ k = 2) with rfl | rfl | rfl
    ·simp -implicitDefEqProofs only [go_sem, cRow_0, List.map_nil]
     refine apD true (by simp -implicitDefEqProofs only [go_sem, ne_eq, List.length_map, ha1, Nat.zero_add, flR_strs]) ?_
     simp -implicitDefEqProofs only [go_sem, ne_eq, List.length_map, ha1, Nat.zero_add, flR_strs]
     refine ⟨1, by omega, by omega, weak_hd ?_⟩
     simp -implicitDefEqProofs only [go_sem, cRow_1, u1]
    ·simp -implicitDefEqProofs only [go_sem, cRow_1]
     refine apD true (by simp -implicitDefEqProofs only [go_sem, ne_eq, List.length_map, ha2, flR_strs]) ?_
     simp -implicitDefEqProofs only [go_sem, ne_eq, List.length_map, ha2, flR_strs]
     refine ⟨2, by omega, by omega, weak_hd ?_⟩
     simp -implicitDefEqProofs only [go_sem, cRow_2, u2, List.map_append]
    ·simp -implicitDefEqProofs only [go_sem, cRow_2]
end Go.Proofs.YtbccfiillleimaaGreat
namespace Go.Proofs.YtbccfiillleimaaGreat
set_option linter.unusedSimpArgs false
set_option linter.unusedVariables false
set_option linter.unusedSectionVars false
set_option maxRecDepth 4000
open Go.RowKit
section
variable {P : Program}
theorem ct0_A {n0 : Nat → Prop} {N : Nat} {σ : St} {g : Gh} {a : Act} {w : World} (hR : Rel n0 N σ g a w) {c : C} {t : T} (h : CT0 σ c t) {v : Value} (hv : CR σ g w c v) : RepV w (fun b => b < w.heap.size ∧ g.A0 b) t v := by
 have hF : ∀ b, Fix σ g w b → b < w.heap.size ∧ g.A0 b := fun b hb => ⟨hb.2.2.1, hb.2.2.2⟩
 have hFr : ∀ b, Free σ g w b → b < w.heap.size ∧ g.A0 b := fun b hb => hF b hb.1
 cases c with
 | t x =>
  have h : x = t := h
  subst h
  exact RepV.keep (fun _ _ => rfl) hF x v hv
 | rn x =>
  have h : x = t := h
  subst h
  exact RepV.keep (fun _ _ => rfl) hFr x v hv
 | nl s =>
  cases t with
  | sl sz rows =>
   have h : rows = [] := h
   subst h
   have hv : v = .slice none 0 0 := hv
   subst hv
   unfold RepV
   exact ⟨none, 0, rfl, Nat.le_refl _, by simp, Or.inl rfl⟩
  | _ => exact h.elim
 | ow e n =>
  cases t with
  | sl sz rows =>
   obtain ⟨d, o, he⟩ := h
   obtain ⟨rfl, -⟩ := hv
   cases o
   ·exact RepV.keep (fun _ _ => rfl) hF _ _ (hR.offs e _ he rfl).1
   ·have hOn : σ.On e := ⟨_, he, rfl⟩
    have hlt : ∀ b ∈ g.φ e, b < w.heap.size := (hR.evs e _ he rfl).lt
    obtain ⟨ao, cap, e1, e2, e3, e4⟩ := hR.evs e _ he rfl
    unfold RepV
    refine ⟨ao, cap, e1, e2, e3, ?_⟩
    rcases e4 with ⟨_, _, e4, _⟩ | ⟨b, cells, ty, fps, k1, k2, k3, k4, k5⟩
    ·exact Or.inl e4
    ·have hA : ∀ b' ∈ g.φ e, b' < w.heap.size ∧ g.A0 b' := fun b' hb' => ⟨hlt b' hb', (hR.ebase e hOn b' hb').1⟩
     refine Or.inr ⟨b, 0, k1, hA b (by rw [k2]; simp), ?_⟩
     split at k5
     ·exact OwnRows.rep b cells ty k3 0 sz rows fps k5 fun b' hb' => hA b' (by rw [k2]; simp [hb'])
     ·exact RepRows.keep (fun _ _ => rfl) hF b rfl 0 sz rows k5.2
  | _ => exact h.elim
 | el cs o =>
  cases t with
  | ptr cs' =>
   obtain ⟨rfl, rfl⟩ := h
   obtain ⟨b, q, h1, h2, h3⟩ := hv
   unfold RepV
   exact ⟨b, q, h1, hF b h2, RepAt.keep (fun _ _ => rfl) hF b rfl q cs h3⟩
  | _ => exact h.elim
 | er cs o =>
  cases t with
  | ptr cs' =>
   obtain ⟨rfl, rfl⟩ := h
   obtain ⟨b, q, h1, h2, h3⟩ := hv
   unfold RepV
   exact ⟨b, q, h1, hFr b h2, RepAt.keep (fun _ _ => rfl) hFr b rfl q cs h3⟩
  | _ => exact h.elim
 | _ => cases t <;> exact h.elim
theorem ct0s_A {n0 : Nat → Prop} {N : Nat} {σ : St} {g : Gh} {a : Act} {w : World} (hR : Rel n0 N σ g a w) : ∀ {cs : List C} {ts : List T}, CT0s σ cs ts → ∀ {vs : List Value}, CRs σ g w cs vs → RepAll w (fun b => b < w.heap.size ∧ g.A0 b) ts vs
 | [], ts, h, vs, hv => by rw [show ts = [] from h]; unfold RepAll; exact hv
 | c :: cs, ts, h, vs, hv => by
  obtain ⟨t, ts', rfl, h1, h2⟩ := h
  obtain ⟨v, vs', rfl, k1, k2⟩ := hv
  unfold RepAll
  exact ⟨v, vs', rfl, ct0_A hR h1 k1, ct0s_A hR h2 k2⟩
def RVe (σ : St) : List V → List D → Prop
 | [], [] => True
 | .one c :: vs, .one t :: ds => CT0 σ c t ∧ RVe σ vs ds
 | .agg cs :: vs, .agg ts :: ds => CT0s σ cs ts ∧ RVe σ vs ds
 | _, _ => False
theorem RVe.rep {n0 : Nat → Prop} {N : Nat} {σ : St} {g : Gh} {a : Act} {w : World} (hR : Rel n0 N σ g a w) : ∀ {vs : List V} {ds : List D}, RVe σ vs ds → ∀ {us : List Value}, VRl σ g w vs us → RepDs w (fun b => b < w.heap.size ∧ g.A0 b) ds us
 | [], [], _, us, hv => hv
 | .one c :: vs, .one t :: ds, h, us, hv => by
  obtain ⟨u, us', rfl, k1, k2⟩ := hv
  exact ⟨u, us', rfl, ct0_A hR h.1 k1, RVe.rep hR h.2 k2⟩
 | .agg cs :: vs, .agg ts :: ds, h, us, hv => by
  obtain ⟨u, us', rfl, ⟨q, rfl, k1⟩, k2⟩ := hv
  exact ⟨_, us', rfl, ⟨q, rfl, ct0s_A hR h.1 k1⟩, RVe.rep hR h.2 k2⟩
 | [], _ :: _, h, _, _ => h.elim
 | .one _ :: _, [], h, _, _ => h.elim
 | .one _ :: _, .agg _ :: _, h, _, _ => h.elim
 | .agg _ :: _, [], h, _, _ => h.elim
 | .agg _ :: _, .one _ :: _, h, _, _ => h.elim
 | .tup _ :: _, [], h, _, _ => h.elim
 | .tup _ :: _, _ :: _, h, _, _ => h.elim
def PRe (P : Program) (rs : List ResultVar) (res : List D) (e : Exit) (σ : St) : Prop := match e with
 | .normal => onSome (resList P σ rs) fun vs => RVe σ vs res
 | .ret => onSome (resList P σ rs) fun vs => RVe σ vs res
 | _ => False
theorem RC_ofE {f : FuncId} {fn : Func} {c : Code} {args res : List D} (hc : Callable P f) (hf : P.funcs[f]? = some fn) (hb : fn.body = some c) (hd : dstOk fn.ntmps c = true) (hN : (rd args).length ≤ fn.ntmps)
  (h : ex P c [] (PRe P fn.results.toList res) (initG (rd args))) : RC P f args res := by
 refine ⟨hc, fun w vs A hv => ?_⟩
 refine calls_of_wp hf hb ?_
 have hg : ∀ (ds : List D) (vs : List Value), RepDs w (fun b => b < w.heap.size ∧ A b) ds vs → GArgs w (fun b => b < w.heap.size ∧ A b ∧ b ∉ ([] : List Nat)) (rd ds) vs [] [] := by
  intro ds
  induction ds with
  | nil => intro vs h; exact ⟨h, rfl, rfl⟩
  | cons d ds ih =>
   rintro vs ⟨v, vs', rfl, h1, h2⟩
   refine ⟨v, vs', rfl, ?_, ih _ h2⟩
   cases d with
   | one t => exact RepV.keep (fun _ _ => rfl) (fun b hb => ⟨hb.1, hb.2, by simp⟩) t _ h1
   | agg ts => obtain ⟨a, h0, h1⟩ := h1; exact ⟨a, h0, RepAll.keep (fun _ _ => rfl) (fun b hb => ⟨hb.1, hb.2, by simp⟩) ts a h1⟩
 obtain ⟨g, hg, hR⟩ := Rel.start (A := A) (A0 := fun b => A b ∨ w.heap.size ≤ b) (R0 := RP.of fun _ => True) (N := fn.ntmps) (hg _ _ hv) List.nodup_nil (smallG_rd args) hN (fun _ hb => Or.inl hb) (fun b hb => by simp at hb) (fun b hb => ⟨Or.inr (by
  refine Nat.le_of_not_lt fun hlt => hb ⟨hlt, by simp⟩), trivial⟩)
 refine wp_mono (exec_sound (w0 := w) c (initG (rd args)) _ hd h g _ w hR (fun k hk => hk.1) (Bk.refl _ _) hg) fun e a' w' hq => ?_
 obtain ⟨σ', g', h1, h2, h3, h4, h5⟩ := hq
 have key : onSome (resList P σ' fn.results.toList) (fun vs => RVe σ' vs res) → ∃ v, (results fn a'.tmps).run P w' = .ok v w' ∧ ∃ us, Ending.returned v = .returned (resVal us) ∧ RepDs w' (fun b => b < w'.heap.size ∧ (A b ∨ w.heap.size ≤ b)) res us ∧ Below w.heap.size w w' := fun hk => by
  unfold onSome at hk
  split at hk
  ·rename_i vs hvs
   obtain ⟨us, r1, r2⟩ := results_run h2 fn hvs
   refine ⟨_, r1, us, rfl, (RVe.rep h2 hk r2).keep (fun _ _ => rfl) fun b hb => ⟨hb.1, ?_⟩, h4.os, h4.tape, h4.output, h4.size, fun k hk => h4.block k ⟨hk, by simp⟩⟩
   have := hb.2
   simp only [Prod.mk.injEq] at h5
   rw [h5.1] at this
   exact this
  ·exact hk.elim
 cases e with
 | normal => exact ⟨h2.defers, key h1⟩
 | ret => exact ⟨h2.defers, key h1⟩
 | exit _ => exact h1.elim
 | goto _ => exact h1.elim
 | panic _ => exact h1.elim
 | outgrown => exact h1.elim
attribute [go_sem] PRe RVe
end
abbrev egC (x : Eg) : List T := [.str x.1, .sl 1 (x.2.map fun s => [.str s])]
abbrev egS (xs : List Eg) : T := .sl 2 (xs.map egC)
abbrev eigL (e : Ex) (pos : Bool) (ab : List Str) : List (List Eg) := e.parts.mapIdx fun i p =>
 if strongE e.form pos = true then ((e.terms.getD i Tm.zero).name, ab) :: eigI p (sgn e.form i pos) ab else eigI p (sgn e.form i pos) (if isQ e.form.op = true then ab ++ putSs [] (voI (e.terms.getD i Tm.zero)) else ab)
abbrev eigP (p : Ex) (pos : Bool) (ab : List Str) : Prop := RC Tryz.prog 156 [exD p, bD pos, .one (strS ab)] [.one (egS (eigI p pos ab))]
end Go.Proofs.YtbccfiillleimaaGreat
namespace Go.Proofs.YtbccfiillleimaaGreat
set_option linter.unusedSimpArgs false
set_option linter.unusedVariables false
set_option linter.unusedSectionVars false
set_option maxRecDepth 4000
open Go.RowKit
theorem eigL_take (e : Ex) (pos : Bool) (ab : List Str) {k : Nat} (hlt : k < e.parts.length) : (eigL e pos ab).take (k + 1) = (eigL e pos ab).take k ++ [if strongE e.form pos = true then ((e.terms.getD k Tm.zero).name, ab) :: eigI e.parts[k] (sgn e.form k pos) ab else eigI e.parts[k] (sgn e.form k pos) (if isQ e.form.op = true then ab ++ putSs [] (voI (e.terms.getD k Tm.zero)) else ab)] := by
 rw [List.take_succ_eq_append_getElem (by simpa using hlt), List.getElem_mapIdx]
theorem eigI_len (e : Ex) (pos : Bool) (ab : List Str) (h : nodeS e pos = true) : (eigI e pos ab).length ≤ e.nodes := by
 have h1 := congrArg List.length (eigI_names e pos ab h)
 rw [List.length_map] at h1
 rw [h1]
 exact namesS_len e pos
theorem take_flat {α : Type} (L : List (List α)) (k : Nat) : (L.take k).flatten.length ≤ L.flatten.length := by
 have := congrArg (fun l => l.flatten.length) (List.take_append_drop k L)
 simp only [List.flatten_append, List.length_append] at this
 omega
theorem flat_sum {α β : Type} (f : α → List β) (w : α → Nat) : ∀ (l : List α), (∀ x ∈ l, (f x).length ≤ w x) → (l.map f).flatten.length ≤ (l.map w).sum
 | [], _ => by simp
 | a :: l, h => by
  have h1 := h a (by simp)
  have h2 := flat_sum f w l fun x hx => h x (by simp [hx])
  simp only [List.map_cons, List.flatten_cons, List.length_append, List.sum_cons]
  omega
theorem sum_one {α : Type} (w : α → Nat) : ∀ xs : List α, (xs.map fun x => 1 + w x).sum = xs.length + (xs.map w).sum
 | [] => rfl
 | a :: l => by rw [List.map_cons, List.sum_cons, sum_one w l, List.length_cons, List.map_cons, List.sum_cons]; omega
theorem voI_len : ∀ a : Tm, (voI a).length ≤ 1 + a.wt := tm_ind fun n xs ih => by
 rw [voI_eq]
 split
 ·simp only [List.length_cons, List.length_nil]; omega
 ·have h1 := flat_sum voI (fun x => 1 + x.wt) xs ih
  have h2 := sum_one Tm.wt xs
  have h3 := Tm.wt_eq (.mk n xs)
  simp only [Tm.name, Tm.args] at h3 ⊢
  omega
set_option maxHeartbeats 4000000 in
theorem eigens_of (e : Ex) (he : e.wt ≤ 1048576) (pos : Bool) (hn : nodeS e pos = true) (ab : List Str) (hab : ab.length + e.wt ≤ 2097152) (H : ∀ p ∈ e.parts, ∀ pos ab, nodeS p pos = true → ab.length + p.wt ≤ 2097152 → eigP p pos ab) : eigP e pos ab := by
 have hv : eigI e pos ab = (eigL e pos ab).flatten := eigI_eq e pos ab
 have hW := e.wt_eq
 have hen := enodes_wt e
 have hTW : tmsW e.terms = e.terms.length + (e.terms.map Tm.wt).sum := rfl
 have hln := eigI_len e pos ab hn
 have hpts := (nodeS_parts hn).1
 have hTP := (nodeS_len hn).1
 have hg := terms_names hn
 have HQ := isQuantifier_c e.form.op
 have HSt := isStrong_c e.form pos
 have hLl : (eigL e pos ab).length = e.parts.length := by simp
 have hLk := fun k (hlt : k < e.parts.length) => eigL_take e pos ab hlt
 have hgrow := take_flat (eigL e pos ab)
 unfold eigP
 rw [hv]
 rw [hv] at hln
 generalize eigL e pos ab = L at hv hLl hLk hgrow hln ⊢
 simp only [exD, exC_eq e, fmD, fmC_eq e.form] at HSt ⊢
 refine RC_ofE Tryz.call156 Tryz.func156 rfl (by kernel_rfl) (by simp only [rd, List.map_cons, List.map_nil, List.length_cons, List.length_nil, Tryz.ntmps156]; omega) ?_
 simp -implicitDefEqProofs only [go_sem, Tryz.results156]
 refine buildSc (by simp -implicitDefEqProofs only [go_sem]) ?_
 simp -implicitDefEqProofs only [go_sem]
 refine loop_rule (fun k : Nat => hd [(1, vT (.bool pos)), (2, vT (strS ab)), (3, .one (.bx 3 0)), (7, .one (.ow 384 0)), (8, .one (.bx 8 0)), (16, vT (exS e.parts)), (17, vI e.parts.length), (18, vI k)] [(3, [.t (.int .i64 e.form.op), .t (.str e.form.atom.name), .t (tmS e.form.atom.args), .t (.str e.form.var), .t (fmS e.form.parts), .t (tmS e.terms), .t (exS e.parts)]), (8, [.t (.int .i64 e.form.op), .t (.str e.form.atom.name), .t (tmS e.form.atom.args), .t (.str e.form.var), .t (fmS e.form.parts)])] [(384, ⟨false, 2, (L.take k).flatten.map egC, 0, true⟩)]) (fun k => k ≤ e.parts.length) (fun k => e.parts.length - k) 0 (weak_hd ?_) (Nat.zero_le _) ?_
 ·simp -implicitDefEqProofs only [go_sem]
 ·intro k hk
  by_cases hlt : k < e.parts.length
  ·have hLk := hLk k hlt
   have hgk := hgrow (k + 1)
   have hpk := mem_sum Ex.wt e.parts e.parts[k] (List.getElem_mem hlt)
   have HPo := polarity_c e.form k pos
   have hsg : (pos != (e.form.op == 4 || (e.form.op == 7 && ((k : Int) == 0)))) = sgn e.form k pos := rfl
   rw [hsg] at HPo
   simp only [fmD, fmC_eq e.form] at HPo
   generalize hDn : (L.take k).flatten = dn at hgk ⊢
   cases hq : isQ e.form.op
   ·have hst : strongE e.form pos = false := by unfold strongE; rw [hq]; rfl
    rw [hst, hq, if_neg (by simp), if_neg (by simp)] at hLk
    rw [hLk, List.flatten_append, List.length_append, List.flatten_singleton, hDn] at hgk
    rw [hq] at HQ
    have HC := H e.parts[k] (List.getElem_mem hlt) (sgn e.form k pos) ab (hpts k hlt) (by omega)
    unfold eigP at HC
    generalize hEi : eigI e.parts[k] (sgn e.form k pos) ab = ei at HC hLk hgk
    have ha1 : dn.length + ei.length ≤ 4294967296 := by omega
    simp only [exD, exC_eq e.parts[k]] at HC
    simp -implicitDefEqProofs only [go_sem, hlt, getD_at, exC_eq e.parts[k]]
    refine callF (HQ) (by simp -implicitDefEqProofs only [go_sem]) ?_
    simp -implicitDefEqProofs only [go_sem]
    refine drawn (by kernel_rfl) ?_
    simp -implicitDefEqProofs only [go_sem]
    refine dCallF (HPo) (by simp -implicitDefEqProofs only [go_sem]) ?_
    simp -implicitDefEqProofs only [go_sem]
    refine dCallR HC (by simp -implicitDefEqProofs only [go_sem]) ?_
    simp -implicitDefEqProofs only [go_sem]
    refine dApD false (by simp -implicitDefEqProofs only [go_sem, ne_eq, List.length_map, ha1]) ?_
    simp -implicitDefEqProofs only [go_sem, ne_eq, List.length_map, ha1]
    refine ⟨by kernel_rfl, k + 1, hlt, by omega, weak_hd ?_⟩
    simp -implicitDefEqProofs only [go_sem]
    rw [wrap_s (by omega), hLk, List.flatten_append, List.flatten_singleton, hDn, List.map_append]
    exact ⟨rfl, rfl⟩
   ·rw [hq] at HQ
    have hkt : k < e.terms.length := by have := hTP hq; omega
    have hTk := mem_sum Tm.wt e.terms e.terms[k] (List.getElem_mem hkt)
    have hgd := hg hq k hkt
    rw [getD_eq hkt] at hgd hLk
    rw [← strongE_q hq] at HSt
    cases hst : strongE e.form pos
    ·rw [hst] at HSt
     rw [hst, hq, if_neg (by simp), if_pos rfl] at hLk
     rw [hLk, List.flatten_append, List.length_append, List.flatten_singleton, hDn] at hgk
     have hvl := voI_len e.terms[k]
     have hpl := putSs_len (voI e.terms[k]) []
     simp only [List.length_nil] at hpl
     have HV := variables_c e.terms[k] (vo_names _ (good_names hgd)).2 (by omega) (by omega)
     generalize hVs : putSs [] (voI e.terms[k]) = vs at HV hLk hpl hgk
     have HCc := concatStr_c ab vs (by omega)
     have HC := H e.parts[k] (List.getElem_mem hlt) (sgn e.form k pos) (ab ++ vs) (hpts k hlt) (by rw [List.length_append]; omega)
     unfold eigP at HC
     generalize hEi : eigI e.parts[k] (sgn e.form k pos) (ab ++ vs) = ei at HC hLk hgk
     have ha1 : dn.length + ei.length ≤ 4294967296 := by omega
     simp only [exD, exC_eq e.parts[k], tmD, tmC_eq e.terms[k]] at HC HV
     simp -implicitDefEqProofs only [go_sem, hlt, getD_at, exC_eq e.parts[k]]
     refine callF (HQ) (by simp -implicitDefEqProofs only [go_sem]) ?_
     simp -implicitDefEqProofs only [go_sem]
     refine callF (HSt) (by simp -implicitDefEqProofs only [go_sem, hkt, getD_at, tmC_eq e.terms[k]]) ?_
     simp -implicitDefEqProofs only [go_sem, hkt, getD_at, tmC_eq e.terms[k]]
     refine callF (HV) (by simp -implicitDefEqProofs only [go_sem]) ?_
     simp -implicitDefEqProofs only [go_sem]
     refine frzO 1504 rfl rfl ?_
     simp -implicitDefEqProofs only [go_sem]
     refine buildSc (by simp -implicitDefEqProofs only [go_sem]) ?_
     simp -implicitDefEqProofs only [go_sem]
     refine callF (HCc) (by simp -implicitDefEqProofs only [go_sem]) ?_
     simp -implicitDefEqProofs only [go_sem]
     refine frzD 1568 ?_
     simp -implicitDefEqProofs only [go_sem]
     refine drawn (by kernel_rfl) ?_
     simp -implicitDefEqProofs only [go_sem]
     refine dCallF (HPo) (by simp -implicitDefEqProofs only [go_sem]) ?_
     simp -implicitDefEqProofs only [go_sem]
     refine dCallR HC (by simp -implicitDefEqProofs only [go_sem]) ?_
     simp -implicitDefEqProofs only [go_sem]
     refine dApD false (by simp -implicitDefEqProofs only [go_sem, ne_eq, List.length_map, ha1]) ?_
     simp -implicitDefEqProofs only [go_sem, ne_eq, List.length_map, ha1]
     refine ⟨by kernel_rfl, k + 1, hlt, by omega, weak_hd ?_⟩
     simp -implicitDefEqProofs only [go_sem]
     rw [wrap_s (by omega), hLk, List.flatten_append, List.flatten_singleton, hDn, List.map_append]
     exact ⟨rfl, rfl⟩
    ·rw [hst] at HSt
     rw [hst, if_pos rfl] at hLk
     rw [hLk, List.flatten_append, List.length_append, List.flatten_singleton, hDn, List.length_cons] at hgk
     have HC := H e.parts[k] (List.getElem_mem hlt) (sgn e.form k pos) ab (hpts k hlt) (by omega)
     unfold eigP at HC
     generalize hEi : eigI e.parts[k] (sgn e.form k pos) ab = ei at HC hLk hgk
     have ha1 : dn.length + 1 + ei.length ≤ 4294967296 := by omega
     have ha2 : dn.length ≤ 4294967295 := by omega
     simp only [exD, exC_eq e.parts[k]] at HC
     simp -implicitDefEqProofs only [go_sem, hlt, getD_at, exC_eq e.parts[k]]
     refine callF (HQ) (by simp -implicitDefEqProofs only [go_sem]) ?_
     simp -implicitDefEqProofs only [go_sem]
     refine callF (HSt) (by simp -implicitDefEqProofs only [go_sem, hkt, getD_at, tmC_eq e.terms[k]]) ?_
     simp -implicitDefEqProofs only [go_sem, hkt, getD_at, tmC_eq e.terms[k]]
     refine buildSc (by simp -implicitDefEqProofs only [go_sem]) ?_
     simp -implicitDefEqProofs only [go_sem]
     refine apD false (by simp -implicitDefEqProofs only [go_sem, ne_eq, List.length_map, ha2]) ?_
     simp -implicitDefEqProofs only [go_sem, ne_eq, List.length_map, ha2]
     refine drawn (by kernel_rfl) ?_
     simp -implicitDefEqProofs only [go_sem]
     refine dCallF (HPo) (by simp -implicitDefEqProofs only [go_sem]) ?_
     simp -implicitDefEqProofs only [go_sem]
     refine dCallR HC (by simp -implicitDefEqProofs only [go_sem]) ?_
     simp -implicitDefEqProofs only [go_sem]
     refine dApD false (by simp -implicitDefEqProofs only [go_sem, ne_eq, List.length_map, List.length_append, List.length_cons, List.length_nil, ha1]) ?_
     simp -implicitDefEqProofs only [go_sem, ne_eq, List.length_map, List.length_append, List.length_cons, List.length_nil, ha1]
     refine ⟨by kernel_rfl, k + 1, hlt, by omega, weak_hd ?_⟩
     simp -implicitDefEqProofs only [go_sem]
     rw [wrap_s (by omega), hLk, List.flatten_append, List.flatten_singleton, hDn, List.map_append, List.map_cons]
     simp only [List.append_assoc, List.cons_append, List.nil_append]
     exact ⟨trivial, trivial⟩
  ·have ht : L.take k = L := List.take_of_length_le (by omega)
   simp -implicitDefEqProofs only [go_sem, hlt, ht]
end Go.Proofs.YtbccfiillleimaaGreat
namespace Go.Proofs.YtbccfiillleimaaGreat
set_option linter.unusedSimpArgs false
set_option linter.unusedVariables false
set_option linter.unusedSectionVars false
set_option maxRecDepth 4000
open Go.RowKit
theorem eigens_c : ∀ e : Ex, e.wt ≤ 1048576 → ∀ pos ab, nodeS e pos = true → ab.length + e.wt ≤ 2097152 → eigP e pos ab :=
 ex_ind fun f ts ps ih he pos ab hn hab => eigens_of (.mk f ts ps) he pos hn ab hab fun p hp pos ab hn hab => ih p hp (Nat.le_trans (eparts_wt (a := .mk f ts ps) hp) he) pos ab hn hab
theorem indexFuncEg_c (xs : List Eg) (p : Eg → Bool) (g : FuncId) (caps : List T) (H : ∀ x ∈ xs, FC Tryz.prog g (.agg (egC x) :: caps.map .one) [bD (p x)]) : FC Tryz.prog 157 [.one (egS xs), .one (.fn g caps)] [iD (idxP xs p)] := by
 refine FC_wf (fun hw => ?_) Tryz.call157
 have hl : xs.length ≤ 9223372036854775807 := by simpa [wfDs, wfT] using hw.1.1
 refine FC_of Tryz.call157 Tryz.func157 rfl (by kernel_rfl) (by simp only [rd, List.map_cons, List.map_nil, List.length_cons, List.length_nil, Tryz.ntmps157]; omega) ?_
 simp -implicitDefEqProofs only [go_sem, Tryz.results157]
 refine loop_rule (fun k : Nat => hd [(0, vT (egS xs)), (1, vT (.fn g caps)), (7, vI xs.length), (8, vI k)] [] []) (fun k => k ≤ xs.length ∧ ∀ x ∈ xs.take k, p x = false) (fun k => xs.length - k) 0 (weak_hd ?_) ?_ ?_
 ·simp -implicitDefEqProofs only [go_sem]
 ·simp
 ·intro k ⟨hk, hr⟩
  by_cases hlt : k < xs.length
  ·simp -implicitDefEqProofs only [go_sem, getD_at, hlt, ne_eq]
   refine callF (H xs[k] (List.getElem_mem hlt)) (by simp -implicitDefEqProofs only [go_sem, ne_eq]) ?_
   simp -implicitDefEqProofs only [go_sem, ne_eq]
   refine ⟨fun h => ?_, fun h => ⟨k + 1, ⟨hlt, take_all_succ hlt hr h⟩, by omega, weak_hd (by simp -implicitDefEqProofs only [go_sem]; rw [wrap_s (by omega)])⟩⟩
   rw [idxP_found hlt hr h]
  ·simp -implicitDefEqProofs only [go_sem, hlt]
   rw [List.take_of_length_le (by omega)] at hr
   rw [idxP_none hr]
theorem containsFuncEg_c (xs : List Eg) (p : Eg → Bool) (g : FuncId) (caps : List T) (H : ∀ x ∈ xs, FC Tryz.prog g (.agg (egC x) :: caps.map .one) [bD (p x)]) : FC Tryz.prog 159 [.one (egS xs), .one (.fn g caps)] [bD (xs.any p)] := by
 refine FC_of Tryz.call159 Tryz.func159 rfl (by kernel_rfl) (by simp only [rd, List.map_cons, List.map_nil, List.length_cons, List.length_nil, Tryz.ntmps159]; omega) ?_
 simp -implicitDefEqProofs only [go_sem, Tryz.results159]
 refine callF (indexFuncEg_c xs p g caps H) (by simp -implicitDefEqProofs only [go_sem]) ?_
 simp -implicitDefEqProofs only [go_sem]
 rw [idxP_any]
theorem cl2_c (x y : Eg) (out : List Str) : FC Tryz.prog 160 [.agg (egC y), .one (.ptr (egC x)), .one (.ptr [strS out])] [bD (x.2.contains y.1 && !out.contains y.1)] := by
 have H1 := containsStr_c x.2 y.1
 have H2 := containsStr_c out y.1
 cases h1 : x.2.contains y.1
 ·rw [h1] at H1
  refine FC_of Tryz.call160 Tryz.func160 rfl (by kernel_rfl) (by simp only [rd, List.map_cons, List.map_nil, List.length_cons, List.length_nil, Tryz.ntmps160]; omega) ?_
  simp -implicitDefEqProofs only [go_sem, Tryz.results160]
  refine callF (H1) (by simp -implicitDefEqProofs only [go_sem]) ?_
  simp -implicitDefEqProofs only [go_sem]
 ·rw [h1] at H1
  refine FC_of Tryz.call160 Tryz.func160 rfl (by kernel_rfl) (by simp only [rd, List.map_cons, List.map_nil, List.length_cons, List.length_nil, Tryz.ntmps160]; omega) ?_
  simp -implicitDefEqProofs only [go_sem, Tryz.results160]
  refine callF (H1) (by simp -implicitDefEqProofs only [go_sem]) ?_
  simp -implicitDefEqProofs only [go_sem]
  refine callF (H2) (by simp -implicitDefEqProofs only [go_sem]) ?_
  simp -implicitDefEqProofs only [go_sem]
abbrev arB (list : List Eg) (out : List Str) : Bxs := [[(true, strS out)], [(false, egS list)]]
theorem cl1_c (list : List Eg) (out : List Str) (x : Eg) : PC Tryz.prog 158 (arB list out) [.d false (.agg (egC x)), .p 0, .p 1] (arB list out) [(true, bD (rdyI list out x))] := by
 have H1 := containsStr_c out x.1
 have H2 := containsFuncEg_c list (fun y => x.2.contains y.1 && !out.contains y.1) 160 [.ptr (egC x), .ptr [strS out]] fun y _ => cl2_c x y out
 unfold rdyI
 generalize (list.any fun y => x.2.contains y.1 && !out.contains y.1) = r at H2 ⊢
 cases h1 : out.contains x.1
 ·rw [h1] at H1
  refine PC_of Tryz.call158 Tryz.func158 rfl (by kernel_rfl) (by simp only [List.length_cons, List.length_nil, Tryz.ntmps158]; omega) (by simp only [Tryz.ntmps158]; omega) rfl rfl (by simp [smallG, T.isPin, AF.ds, bxA]) (by simp [gFS, T.fs, T.flat, AF.ds, bxA]) rfl ?_
  simp -implicitDefEqProofs only [go_sem, Tryz.results158]
  refine callF (H1) (by simp -implicitDefEqProofs only [go_sem]) ?_
  simp -implicitDefEqProofs only [go_sem]
  refine callF (H2) (by simp -implicitDefEqProofs only [go_sem]) ?_
  simp -implicitDefEqProofs only [go_sem]
 ·rw [h1] at H1
  refine PC_of Tryz.call158 Tryz.func158 rfl (by kernel_rfl) (by simp only [List.length_cons, List.length_nil, Tryz.ntmps158]; omega) (by simp only [Tryz.ntmps158]; omega) rfl rfl (by simp [smallG, T.isPin, AF.ds, bxA]) (by simp [gFS, T.fs, T.flat, AF.ds, bxA]) rfl ?_
  simp -implicitDefEqProofs only [go_sem, Tryz.results158]
  refine callF (H1) (by simp -implicitDefEqProofs only [go_sem]) ?_
  simp -implicitDefEqProofs only [go_sem]
theorem idxB_c (list : List Eg) (out : List Str) (hl : list.length ≤ 1048577) : PC Tryz.prog 157 (arB list out) [.d false (.one (egS list)), .fn 158 [0, 1]] (arB list out) [(true, iD (idxP list (rdyI list out)))] := by
 refine PC_of Tryz.call157 Tryz.func157 rfl (by kernel_rfl) (by simp only [List.length_cons, List.length_nil, Tryz.ntmps157]; omega) (by simp only [Tryz.ntmps157]; omega) rfl rfl (by simp [smallG, T.isPin, AF.ds, bxA]) (by simp [gFS, T.fs, T.flat, AF.ds, bxA]) rfl ?_
 simp -implicitDefEqProofs only [go_sem, Tryz.results157]
 refine loop_rule (fun k : Nat => hd [(0, .one (.rn (egS list))), (1, .one (.fn 158 [1000000, 1000001])), (7, vI list.length), (8, vI k), (1000000, .one (.bx 1000000 0)), (1000001, .one (.bx 1000001 0))] [(1000000, [.ow 32 0]), (1000001, [.rn (egS list)])] [(32, ⟨true, 1, out.map fun s => [.str s], 0, true⟩)]) (fun k => k ≤ list.length ∧ ∀ x ∈ list.take k, rdyI list out x = false) (fun k => list.length - k) 0 (weak_hd ?_) ?_ ?_
 ·simp -implicitDefEqProofs only [go_sem]
 ·simp
 ·intro k ⟨hk, hr⟩
  by_cases hlt : k < list.length
  ·have HC := cl1_c list out list[k]
   simp -implicitDefEqProofs only [go_sem, getD_at, hlt]
   refine callPL [0, 1, 5, 7, 8, 11, 1000000, 1000001] [15] [1000000, 1000001] [] (HC) (by decide) rfl (by simp -implicitDefEqProofs only [go_sem]) (by simp -implicitDefEqProofs only [go_sem]) (by simp -implicitDefEqProofs only [go_sem]) (by simp -implicitDefEqProofs only [go_sem]) ?_
   simp -implicitDefEqProofs only [go_sem]
   refine ⟨fun h => Or.inl (by rw [idxP_found hlt hr h]), fun h => ⟨k + 1, ⟨hlt, take_all_succ hlt hr h⟩, by omega, weak_ren 32 513 ?_⟩⟩
   simp -implicitDefEqProofs only [go_sem]
   rw [wrap_s (by omega)]
  ·simp -implicitDefEqProofs only [go_sem, hlt]
   rw [List.take_of_length_le (by omega)] at hr
   rw [idxP_none hr]
   exact Or.inl rfl
def arrI (L : List Eg) : Nat → List Str → List Str × Bool
 | 0, out => (out, true)
 | n + 1, out => if 0 ≤ idxP L (rdyI L out) then arrI L n (out ++ [(L.getD (idxP L (rdyI L out)).toNat ([], [])).1]) else (out, false)
theorem idxP_lt {α : Type} {xs : List α} {p : α → Bool} (h : 0 ≤ idxP xs p) : (idxP xs p).toNat < xs.length ∧ idxP xs p = ((idxP xs p).toNat : Nat) := by
 unfold idxP at h ⊢
 split at h
 ·rename_i ha
  have h2 : xs.findIdx p < xs.length := List.findIdx_lt_length.2 (List.any_eq_true.1 ha)
  rw [if_pos ha]
  simp only [Int.toNat_natCast]
  exact ⟨h2, trivial⟩
 ·omega
noncomputable def arI (e : Ex) (pos : Bool) : List Str × Bool := arrI (eigI e pos []) (eigI e pos []).length []
set_option maxHeartbeats 2000000 in
theorem arrange_c (e : Ex) (he : e.wt ≤ 1048576) (pos : Bool) (hn : nodeS e pos = true) : FC Tryz.prog 96 [exD e, bD pos] [.one (strS (arI e pos).1), bD (arI e pos).2] := by
 have HE := eigens_c e he pos [] hn (by simp; omega)
 have hl := eigI_len e pos [] hn
 have hen := enodes_wt e
 have hv : arI e pos = arrI (eigI e pos []) (eigI e pos []).length [] := rfl
 unfold eigP at HE
 generalize eigI e pos [] = list at HE hl hv
 generalize arI e pos = R at hv ⊢
 rw [show strS [] = .sl 1 [] from rfl] at HE
 simp only [exD, exC_eq e] at HE ⊢
 refine FC_ofN Tryz.call96 Tryz.func96 rfl (by kernel_rfl) (by simp only [rd, List.map_cons, List.map_nil, List.length_cons, List.length_nil, Tryz.ntmps96]; omega) ?_
 simp -implicitDefEqProofs only [go_sem, Tryz.results96]
 refine callRn (HE) (by simp -implicitDefEqProofs only [go_sem]) ?_
 simp -implicitDefEqProofs only [go_sem]
 refine buildDc (by simp -implicitDefEqProofs only [go_sem]) ?_
 simp -implicitDefEqProofs only [go_sem]
 refine loop_rule (fun out : List Str => hd [(4, .one (.nl 1)), (5, vT (.bool false)), (6, .one (.bx 6 0)), (7, .one (.bx 7 0))] [(6, [.rn (egS list)]), (7, [.ow 384 0])] [(384, ⟨true, 1, out.map fun s => [.str s], 0, true⟩)]) (fun out => out.length ≤ list.length ∧ arrI list (list.length - out.length) out = R) (fun out => list.length - out.length) [] (weak_hd ?_) ⟨Nat.zero_le _, hv.symm⟩ ?_
 ·simp -implicitDefEqProofs only [go_sem]
 ·intro out ⟨ho, hr⟩
  by_cases hlt : out.length < list.length
  ·have hI := idxB_c list out (by omega)
   obtain ⟨n, hn2⟩ : ∃ n, list.length - out.length = n + 1 := ⟨list.length - out.length - 1, by omega⟩
   rw [hn2] at hr
   unfold arrI at hr
   have hil := fun h => idxP_lt (xs := list) (p := rdyI list out) h
   generalize idxP list (rdyI list out) = x at hI hr hil
   by_cases h0 : 0 ≤ x
   ·obtain ⟨h1, h2⟩ := hil h0
    obtain ⟨j, hj⟩ : ∃ j, x.toNat = j := ⟨_, rfl⟩
    rw [hj] at h1 h2
    rw [if_pos h0, hj, getD_eq h1] at hr
    subst h2
    have ha : out.length ≤ 4294967295 := by omega
    simp -implicitDefEqProofs only [go_sem, hlt]
    refine callPL [4, 5, 6, 7] [18, 19] [7, 6] [] (hI) (by decide) rfl (by simp -implicitDefEqProofs only [go_sem]) (by simp -implicitDefEqProofs only [go_sem]) (by simp -implicitDefEqProofs only [go_sem]) (by simp -implicitDefEqProofs only [go_sem]) ?_
    simp -implicitDefEqProofs only [go_sem]
    refine drawn (by kernel_rfl) ?_
    simp -implicitDefEqProofs only [go_sem, h1, getD_at]
    refine dBuildDc (by simp -implicitDefEqProofs only [go_sem]) ?_
    simp -implicitDefEqProofs only [go_sem]
    refine dApD true (by simp -implicitDefEqProofs only [go_sem, ne_eq, List.length_map, ha]) ?_
    simp -implicitDefEqProofs only [go_sem, ne_eq, List.length_map, ha]
    refine ⟨by kernel_rfl, out ++ [list[j].1], ⟨by rw [List.length_append]; simp; omega, by rw [← hr]; congr 1; rw [List.length_append]; simp; omega⟩, by rw [List.length_append]; simp; omega, weak_ren 384 641 ?_⟩
    simp -implicitDefEqProofs only [go_sem]
    rw [List.map_append, List.map_singleton]
   ·have hx0 : (x < 0) = True := by simp; omega
    rw [if_neg h0] at hr
    subst hr
    simp -implicitDefEqProofs only [go_sem, hlt]
    refine callPL [4, 5, 6, 7] [18, 19] [7, 6] [] (hI) (by decide) rfl (by simp -implicitDefEqProofs only [go_sem, hx0]) (by simp -implicitDefEqProofs only [go_sem, hx0]) (by simp -implicitDefEqProofs only [go_sem, hx0]) (by simp -implicitDefEqProofs only [go_sem, hx0]) ?_
    simp -implicitDefEqProofs only [go_sem, hx0]
  ·have h0 : list.length - out.length = 0 := by omega
   rw [h0] at hr
   unfold arrI at hr
   subst hr
   simp -implicitDefEqProofs only [go_sem, hlt]
end Go.Proofs.YtbccfiillleimaaGreat
namespace Go.Proofs.YtbccfiillleimaaGreat
set_option linter.unusedSimpArgs false
set_option linter.unusedVariables false
set_option linter.unusedSectionVars false
set_option maxRecDepth 4000
open Go.RowKit
abbrev prC (x : Str × Str) : List T := [.str x.1, .str x.2]
abbrev prS (xs : List (Str × Str)) : T := .sl 2 (xs.map prC)
abbrev prL (e : Ex) (pos : Bool) (ab : List Str) : List (List (Str × Str)) := e.parts.mapIdx fun i p => pairS p (sgn e.form i pos) (if (isQ e.form.op && !strongE e.form pos) = true then putSs ab (voS (e.terms.getD i Tm.zero)) else ab)
theorem prL_take (e : Ex) (pos : Bool) (ab : List Str) {k : Nat} (hlt : k < e.parts.length) : (prL e pos ab).take (k + 1) = (prL e pos ab).take k ++ [pairS e.parts[k] (sgn e.form k pos) (if (isQ e.form.op && !strongE e.form pos) = true then putSs ab (voS (e.terms.getD k Tm.zero)) else ab)] := by
 rw [List.take_succ_eq_append_getElem (by simpa using hlt), List.getElem_mapIdx]
theorem voS_good {t : Tm} (h : t.good = true) : (voS t).length ≤ 1 + t.wt := by
 rw [← (vo_names _ (good_names h)).1]
 exact voI_len t
theorem sum_mul (C : Nat) : ∀ l : List Ex, ((l.map Ex.nodes).sum) * C = (l.map fun p => p.nodes * C).sum
 | [] => by simp
 | p :: l => by rw [List.map_cons, List.sum_cons, Nat.add_mul, sum_mul C l, List.map_cons, List.sum_cons]
theorem sum_flat2 {α : Type} (w : Ex → Nat) : ∀ (ps : List Ex) (g : Nat → Ex → List α), (∀ i (hi : i < ps.length), (g i ps[i]).length ≤ w ps[i]) → (ps.mapIdx g).flatten.length ≤ (ps.map w).sum
 | [], _, _ => by simp
 | p :: ps, g, H => by
  rw [List.mapIdx_cons, List.flatten_cons, List.length_append, List.map_cons, List.sum_cons]
  have h0 := H 0 (by simp)
  have h1 := sum_flat2 w ps (fun i => g (i + 1)) fun i hi => by
   have := H (i + 1) (by simpa using hi)
   simpa using this
  simp only [List.getElem_cons_zero] at h0
  omega
theorem pairS_len : ∀ (e : Ex) (pos : Bool) (ab : List Str), nodeS e pos = true → (pairS e pos ab).length ≤ e.nodes * (ab.length + e.wt) := ex_ind fun f ts ps ih pos ab hn => by
 generalize he : Ex.mk f ts ps = e at hn ⊢
 have hps : ps = e.parts := by rw [← he]; rfl
 rw [hps] at ih
 clear hps he
 have hW := e.wt_eq
 have hTW : tmsW e.terms = e.terms.length + (e.terms.map Tm.wt).sum := rfl
 have hpts := (nodeS_parts hn).1
 have hTP := (nodeS_len hn).1
 have hg := terms_names hn
 rw [pairS_eq, e.nodes_eq, List.length_append, Nat.add_mul, Nat.one_mul, sum_mul]
 have h1 : (if strongE e.form pos = true then ab.map fun x => (x, (e.terms.getD 0 Tm.zero).name) else []).length ≤ ab.length + e.wt := by
  split
  ·rw [List.length_map]; omega
  ·simp
 have h2 := sum_flat2 (fun p => p.nodes * (ab.length + e.wt)) e.parts (fun i p => pairS p (sgn e.form i pos) (if (isQ e.form.op && !strongE e.form pos) = true then putSs ab (voS (e.terms.getD i Tm.zero)) else ab)) fun i hi => by
  refine Nat.le_trans (ih e.parts[i] (List.getElem_mem hi) _ _ (hpts i hi)) (Nat.mul_le_mul_left _ ?_)
  have hpk := mem_sum Ex.wt e.parts e.parts[i] (List.getElem_mem hi)
  split
  ·rename_i hw
   rw [Bool.and_eq_true] at hw
   have hkt : i < e.terms.length := by have := hTP hw.1; omega
   have hTk := mem_sum Tm.wt e.terms e.terms[i] (List.getElem_mem hkt)
   have hgd := hg hw.1 i hkt
   rw [getD_eq hkt] at hgd ⊢
   have := voS_good hgd
   have := putSs_len (voS e.terms[i]) ab
   omega
  ·omega
 omega
set_option maxHeartbeats 1000000 in
theorem implEigenOrder_c (e : Ex) (he : e.wt ≤ 1048576) (pos : Bool) : FC Tryz.prog 43 [exD e, bD pos] [.one (strS (if specOk e pos = true then (arI e pos).1 else [])), bD (specOk e pos && (arI e pos).2), bD (specOk e pos)] := by
 have HI := isValidExpansion_c e he pos
 rw [exp_spec] at HI
 cases h : specOk e pos
 ·rw [h] at HI
  rw [if_neg (by simp), Bool.false_and]
  show FC _ _ _ [.one (.sl 1 []), _, _]
  simp only [exD, exC_eq e] at HI ⊢
  refine FC_of Tryz.call43 Tryz.func43 rfl (by kernel_rfl) (by simp only [rd, List.map_cons, List.map_nil, List.length_cons, List.length_nil, Tryz.ntmps43]; omega) ?_
  simp -implicitDefEqProofs only [go_sem, Tryz.results43]
  refine callF (HI) (by simp -implicitDefEqProofs only [go_sem]) ?_
  simp -implicitDefEqProofs only [go_sem]
 ·rw [h] at HI
  have HA := arrange_c e he pos (specOk_node h).2.1
  rw [if_pos rfl, Bool.true_and]
  simp only [exD, exC_eq e] at HI HA ⊢
  refine FC_of Tryz.call43 Tryz.func43 rfl (by kernel_rfl) (by simp only [rd, List.map_cons, List.map_nil, List.length_cons, List.length_nil, Tryz.ntmps43]; omega) ?_
  simp -implicitDefEqProofs only [go_sem, Tryz.results43]
  refine callF (HI) (by simp -implicitDefEqProofs only [go_sem]) ?_
  simp -implicitDefEqProofs only [go_sem]
  refine callF (HA) (by simp -implicitDefEqProofs only [go_sem]) ?_
  simp -implicitDefEqProofs only [go_sem]
end Go.Proofs.YtbccfiillleimaaGreat
namespace Go.Proofs.YtbccfiillleimaaGreat
set_option linter.unusedSimpArgs false
set_option linter.unusedVariables false
set_option linter.unusedSectionVars false
set_option maxRecDepth 4000
open Go.RowKit
theorem part_nod {e p : Ex} (h : p ∈ e.parts) : p.nodes + 1 ≤ e.nodes := by
 have := e.nodes_eq
 have := mem_sum Ex.nodes e.parts p h
 omega
abbrev prP (p : Ex) (pos : Bool) (ab : List Str) : Prop := FC Tryz.prog 98 [exD p, bD pos, .one (strS ab)] [.one (prS (pairS p pos ab))]
set_option maxHeartbeats 8000000 in
theorem l17Pairs_of (e : Ex) (he : e.wt ≤ 1048576) (pos : Bool) (hn : nodeS e pos = true) (ab : List Str) (h60 : e.nodes ≤ 60) (hab : ab.length + e.wt ≤ 2097152) (H : ∀ p ∈ e.parts, ∀ pos ab, nodeS p pos = true → p.nodes ≤ 60 → ab.length + p.wt ≤ 2097152 → prP p pos ab) : prP e pos ab := by
 have hv := pairS_eq e pos ab
 have hW := e.wt_eq
 have hTW : tmsW e.terms = e.terms.length + (e.terms.map Tm.wt).sum := rfl
 have hln := pairS_len e pos ab hn
 have hmul : e.nodes * (ab.length + e.wt) ≤ 60 * 2097152 := Nat.mul_le_mul h60 hab
 have hpts := (nodeS_parts hn).1
 have hTP := (nodeS_len hn).1
 have hg := terms_names hn
 have HQ := l17Quantifier_c e.form
 have HSt := l17Strong_c e.form pos
 have hse : (isQ e.form.op && ((e.form.op == 8) == pos)) = strongE e.form pos := rfl
 rw [hse] at HSt
 have hLl : (prL e pos ab).length = e.parts.length := by simp
 have hLk := fun k (hlt : k < e.parts.length) => prL_take e pos ab hlt
 have hgrow := take_flat (prL e pos ab)
 have hv : pairS e pos ab = (if strongE e.form pos = true then ab.map fun x => (x, (e.terms.getD 0 Tm.zero).name) else []) ++ (prL e pos ab).flatten := hv
 unfold prP
 rw [hv]
 rw [hv, List.length_append] at hln
 generalize prL e pos ab = L at hv hLl hLk hgrow hln ⊢
 simp only [exD, exC_eq e, fmD, fmC_eq e.form] at HQ HSt ⊢
 cases hst : strongE e.form pos
 ·rw [hst] at HSt hln
  simp only [Bool.false_eq_true, if_false, List.length_nil, List.nil_append] at hln ⊢
  refine FC_ofN Tryz.call98 Tryz.func98 rfl (by kernel_rfl) (by simp only [rd, List.map_cons, List.map_nil, List.length_cons, List.length_nil, Tryz.ntmps98]; omega) ?_
  simp -implicitDefEqProofs only [go_sem, Tryz.results98]
  refine buildDc (by simp -implicitDefEqProofs only [go_sem]) ?_
  simp -implicitDefEqProofs only [go_sem]
  refine callF (HSt) (by simp -implicitDefEqProofs only [go_sem]) ?_
  simp -implicitDefEqProofs only [go_sem]
  refine loop_rule (fun k : Nat => hd [(1, vT (.bool pos)), (2, .one (.rn (strS ab))), (3, .one (.bx 3 0)), (7, .one (.ow 384 0)), (8, vT (.bool false)), (10, vI k)] [(3, [.t (.int .i64 e.form.op), .t (.str e.form.atom.name), .rn (tmS e.form.atom.args), .t (.str e.form.var), .rn (fmS e.form.parts), .rn (tmS e.terms), .rn (exS e.parts)])] [(384, ⟨true, 2, ((L.take k).flatten).map prC, 0, true⟩)]) (fun k => k ≤ e.parts.length) (fun k => e.parts.length - k) 0 (weak_hd ?_) (Nat.zero_le _) ?_
  ·simp -implicitDefEqProofs only [go_sem, List.take_zero, List.flatten_nil, List.append_nil]
  ·intro k hk
   by_cases hlt : k < e.parts.length
   ·have hLk := hLk k hlt
    have hgk := hgrow (k + 1)
    have hpk := mem_sum Ex.wt e.parts e.parts[k] (List.getElem_mem hlt)
    have hnk := part_nod (List.getElem_mem hlt)
    have HPo := l17Sign_c e.form k pos
    have hsg : (pos != (e.form.op == 4 || (e.form.op == 7 && ((k : Int) == 0)))) = sgn e.form k pos := rfl
    rw [hsg] at HPo
    simp only [fmD, fmC_eq e.form] at HPo
    generalize hDn : (L.take k).flatten = dn at hgk ⊢
    cases hq : isQ e.form.op
    ·rw [hq, Bool.false_and, if_neg (by simp)] at hLk
     rw [hLk, List.flatten_append, List.length_append, List.flatten_singleton, hDn] at hgk
     rw [hq] at HQ
     have HC := H e.parts[k] (List.getElem_mem hlt) (sgn e.form k pos) ab (hpts k hlt) (by omega) (by omega)
     unfold prP at HC
     generalize hEi : pairS e.parts[k] (sgn e.form k pos) ab = ei at HC hLk hgk
     have ha1 : dn.length + ei.length ≤ 4294967296 := by omega
     simp only [exD, exC_eq e.parts[k]] at HC
     simp -implicitDefEqProofs only [go_sem, hlt]
     refine callF (HQ) (by simp -implicitDefEqProofs only [go_sem]) ?_
     simp -implicitDefEqProofs only [go_sem]
     refine drawn (by kernel_rfl) ?_
     simp -implicitDefEqProofs only [go_sem, hlt, getD_at, exC_eq e.parts[k]]
     refine dCallF (HPo) (by simp -implicitDefEqProofs only [go_sem]) ?_
     simp -implicitDefEqProofs only [go_sem]
     refine dCallF (HC) (by simp -implicitDefEqProofs only [go_sem]) ?_
     simp -implicitDefEqProofs only [go_sem]
     refine dApD true (by simp -implicitDefEqProofs only [go_sem, ne_eq, List.length_map, List.length_append, ha1]) ?_
     simp -implicitDefEqProofs only [go_sem, ne_eq, List.length_map, List.length_append, ha1]
     refine ⟨by kernel_rfl, k + 1, hlt, by omega, weak_hd ?_⟩
     simp -implicitDefEqProofs only [go_sem]
     rw [wrap_s (by omega), hLk, List.flatten_append, List.flatten_singleton, hDn]
     simp only [List.map_append, List.append_assoc]
     exact ⟨trivial, trivial⟩
    ·rw [hq] at HQ
     rw [hst, hq, Bool.true_and, Bool.not_false, if_pos rfl] at hLk
     have hkt : k < e.terms.length := by have := hTP hq; omega
     have hTk := mem_sum Tm.wt e.terms e.terms[k] (List.getElem_mem hkt)
     have hgd := hg hq k hkt
     rw [getD_eq hkt] at hgd hLk
     rw [hLk, List.flatten_append, List.length_append, List.flatten_singleton, hDn] at hgk
     have hvl := voS_good hgd
     have hpl := putSs_len (voS e.terms[k]) ab
     have HV := l2Into_c e.terms[k] (by omega) ab (by omega)
     have HC := H e.parts[k] (List.getElem_mem hlt) (sgn e.form k pos) (putSs ab (voS e.terms[k])) (hpts k hlt) (by omega) (by omega)
     unfold prP at HC
     generalize hVs : putSs ab (voS e.terms[k]) = vs at HV HC hLk hpl hgk
     generalize hEi : pairS e.parts[k] (sgn e.form k pos) vs = ei at HC hLk hgk
     have ha1 : dn.length + ei.length ≤ 4294967296 := by omega
     have ha0 : ab.length ≤ 4294967296 := by omega
     simp only [exD, exC_eq e.parts[k], tmD, tmC_eq e.terms[k]] at HC HV
     simp -implicitDefEqProofs only [go_sem, hlt]
     refine callF (HQ) (by simp -implicitDefEqProofs only [go_sem]) ?_
     simp -implicitDefEqProofs only [go_sem]
     refine drawnT 8 (by kernel_rfl) (by kernel_rfl) ?_
     simp -implicitDefEqProofs only [go_sem]
     refine dBuildDc (by simp -implicitDefEqProofs only [go_sem]) ?_
     simp -implicitDefEqProofs only [go_sem]
     refine dApD true (by simp -implicitDefEqProofs only [go_sem, ne_eq, List.length_map, ha0, Nat.zero_add, flR_strs]) ?_
     simp -implicitDefEqProofs only [go_sem, ne_eq, List.length_map, ha0, Nat.zero_add, flR_strs]
     simp -implicitDefEqProofs only [go_sem, hkt, getD_at, tmC_eq e.terms[k]]
     refine ⟨by kernel_rfl, ?_⟩
     refine callGL [1, 2, 3, 7, 8, 10] [54, 59] [] (HV) (by simp -implicitDefEqProofs only [go_sem]) (by simp -implicitDefEqProofs only [go_sem]) (by simp -implicitDefEqProofs only [go_sem]) (by simp -implicitDefEqProofs only [go_sem]) ?_
     simp -implicitDefEqProofs only [go_sem]
     refine drawn (by kernel_rfl) ?_
     simp -implicitDefEqProofs only [go_sem, hlt, getD_at, exC_eq e.parts[k]]
     refine dCallF (HPo) (by simp -implicitDefEqProofs only [go_sem]) ?_
     simp -implicitDefEqProofs only [go_sem]
     refine dCallF (HC) (by simp -implicitDefEqProofs only [go_sem]) ?_
     simp -implicitDefEqProofs only [go_sem]
     refine dApD true (by simp -implicitDefEqProofs only [go_sem, ne_eq, List.length_map, List.length_append, ha1]) ?_
     simp -implicitDefEqProofs only [go_sem, ne_eq, List.length_map, List.length_append, ha1]
     refine ⟨by kernel_rfl, k + 1, hlt, by omega, weak_hd ?_⟩
     simp -implicitDefEqProofs only [go_sem]
     rw [wrap_s (by omega), hLk, List.flatten_append, List.flatten_singleton, hDn]
     simp only [List.map_append, List.append_assoc]
     exact ⟨trivial, trivial⟩
   ·have ht : L.take k = L := List.take_of_length_le (by omega)
    rw [ht]
    simp -implicitDefEqProofs only [go_sem, hlt]
 ·have hq : isQ e.form.op = true := by unfold strongE at hst; rw [Bool.and_eq_true] at hst; exact hst.1
  rw [hst] at HSt hln
  obtain ⟨ta, pa⟩ := strong_one hn hst
  have ht0 : 0 < e.terms.length := by omega
  have ht0i : (0 < (e.terms.length : Int)) = True := by rw [ta]; simp
  rw [getD_eq ht0] at hln ⊢
  simp only [if_true, List.length_map] at hln ⊢
  generalize hnm : e.terms[0].name = nm at hln ⊢
  refine FC_ofN Tryz.call98 Tryz.func98 rfl (by kernel_rfl) (by simp only [rd, List.map_cons, List.map_nil, List.length_cons, List.length_nil, Tryz.ntmps98]; omega) ?_
  simp -implicitDefEqProofs only [go_sem, Tryz.results98]
  refine buildDc (by simp -implicitDefEqProofs only [go_sem]) ?_
  simp -implicitDefEqProofs only [go_sem]
  refine callF (HSt) (by simp -implicitDefEqProofs only [go_sem]) ?_
  simp -implicitDefEqProofs only [go_sem]
  refine loop_rule (fun i : Nat => hd [(1, vT (.bool pos)), (2, .one (.rn (strS ab))), (3, .one (.bx 3 0)), (7, .one (.ow 384 0)), (8, vT (.bool true)), (9, vI i)] [(3, [.t (.int .i64 e.form.op), .t (.str e.form.atom.name), .rn (tmS e.form.atom.args), .t (.str e.form.var), .rn (fmS e.form.parts), .rn (tmS e.terms), .rn (exS e.parts)])] [(384, ⟨true, 2, ((ab.take i).map fun x => (x, nm)).map prC, 0, true⟩)]) (fun i => i ≤ ab.length) (fun i => ab.length - i) 0 (weak_hd ?_) (Nat.zero_le _) ?_
  ·simp -implicitDefEqProofs only [go_sem]
  ·intro i hi
   by_cases hil : i < ab.length
   ·have hmin : min i ab.length ≤ 4294967295 := by omega
    simp -implicitDefEqProofs only [go_sem, hil]
    refine drawn (by kernel_rfl) ?_
    simp -implicitDefEqProofs only [go_sem, hil, ht0i, ht0, getD_at, tmC_eq e.terms[0], hnm]
    refine dBuildDc (by simp -implicitDefEqProofs only [go_sem]) ?_
    simp -implicitDefEqProofs only [go_sem]
    refine dApD true (by simp -implicitDefEqProofs only [go_sem, ne_eq, List.length_map, List.length_take, hmin]) ?_
    simp -implicitDefEqProofs only [go_sem, ne_eq, List.length_map, List.length_take, hmin]
    refine ⟨by kernel_rfl, i + 1, hil, by omega, weak_hd ?_⟩
    simp -implicitDefEqProofs only [go_sem]
    rw [wrap_s (by omega), List.take_succ_eq_append_getElem hil]
    simp only [List.map_append, List.map_cons, List.map_nil]
    exact ⟨trivial, rfl⟩
   ·have hta : ab.take i = ab := List.take_of_length_le (by omega)
    rw [hta]
    simp -implicitDefEqProofs only [go_sem, hil]
    refine loop_rule (fun k : Nat => hd [(1, vT (.bool pos)), (2, .one (.rn (strS ab))), (3, .one (.bx 3 0)), (7, .one (.ow 384 0)), (8, vT (.bool true)), (10, vI k)] [(3, [.t (.int .i64 e.form.op), .t (.str e.form.atom.name), .rn (tmS e.form.atom.args), .t (.str e.form.var), .rn (fmS e.form.parts), .rn (tmS e.terms), .rn (exS e.parts)])] [(384, ⟨true, 2, ((ab.map fun x => (x, nm)) ++ (L.take k).flatten).map prC, 0, true⟩)]) (fun k => k ≤ e.parts.length) (fun k => e.parts.length - k) 0 (weak_hd ?_) (Nat.zero_le _) ?_
    ·simp -implicitDefEqProofs only [go_sem, List.take_zero, List.flatten_nil, List.append_nil]
    ·intro k hk
     by_cases hlt : k < e.parts.length
     ·have hLk := hLk k hlt
      have hgk := hgrow (k + 1)
      have hpk := mem_sum Ex.wt e.parts e.parts[k] (List.getElem_mem hlt)
      have hnk := part_nod (List.getElem_mem hlt)
      have HPo := l17Sign_c e.form k pos
      have hsg : (pos != (e.form.op == 4 || (e.form.op == 7 && ((k : Int) == 0)))) = sgn e.form k pos := rfl
      rw [hsg] at HPo
      simp only [fmD, fmC_eq e.form] at HPo
      generalize hDn : (L.take k).flatten = dn at hgk ⊢
      rw [hst, Bool.not_true, Bool.and_false, if_neg (by simp)] at hLk
      rw [hLk, List.flatten_append, List.length_append, List.flatten_singleton, hDn] at hgk
      rw [hq] at HQ
      have HC := H e.parts[k] (List.getElem_mem hlt) (sgn e.form k pos) ab (hpts k hlt) (by omega) (by omega)
      unfold prP at HC
      generalize hEi : pairS e.parts[k] (sgn e.form k pos) ab = ei at HC hLk hgk
      have ha1 : ab.length + dn.length + ei.length ≤ 4294967296 := by omega
      simp only [exD, exC_eq e.parts[k]] at HC
      simp -implicitDefEqProofs only [go_sem, hlt]
      refine callF (HQ) (by simp -implicitDefEqProofs only [go_sem]) ?_
      simp -implicitDefEqProofs only [go_sem]
      refine drawn (by kernel_rfl) ?_
      simp -implicitDefEqProofs only [go_sem, hlt, getD_at, exC_eq e.parts[k]]
      refine dCallF (HPo) (by simp -implicitDefEqProofs only [go_sem]) ?_
      simp -implicitDefEqProofs only [go_sem]
      refine dCallF (HC) (by simp -implicitDefEqProofs only [go_sem]) ?_
      simp -implicitDefEqProofs only [go_sem]
      refine dApD true (by simp -implicitDefEqProofs only [go_sem, ne_eq, List.length_map, List.length_append, ha1]) ?_
      simp -implicitDefEqProofs only [go_sem, ne_eq, List.length_map, List.length_append, ha1]
      refine ⟨by kernel_rfl, k + 1, hlt, by omega, weak_hd ?_⟩
      simp -implicitDefEqProofs only [go_sem]
      rw [wrap_s (by omega), hLk, List.flatten_append, List.flatten_singleton, hDn]
      simp only [List.map_append, List.append_assoc]
      exact ⟨trivial, trivial⟩
     ·have ht : L.take k = L := List.take_of_length_le (by omega)
      rw [ht]
      simp -implicitDefEqProofs only [go_sem, hlt]
theorem l17Pairs_c : ∀ e : Ex, e.wt ≤ 1048576 → ∀ pos ab, nodeS e pos = true → e.nodes ≤ 60 → ab.length + e.wt ≤ 2097152 → prP e pos ab :=
 ex_ind fun f ts ps ih he pos ab hn h60 hab => l17Pairs_of (.mk f ts ps) he pos hn ab h60 hab fun p hp pos ab hn h60 hab => ih p hp (Nat.le_trans (eparts_wt (a := .mk f ts ps) hp) he) pos ab hn h60 hab
end Go.Proofs.YtbccfiillleimaaGreat
