/-
  FnExactDeepFormula returns true for all arguments, and its arguments read afterwards as they read before.
  Conditions: none.
-/
import Derived.Test.YtbccfiillleimaaGreatQ6
import Derived.Test.YtbccfiillleimaaGreatQ8
import Derived.Test.YtbccfiillleimaaGreatQ5
import Derived.Test.YtbccfiillleimaaGreatRows
import Derived.Test.YtbccfiillleimaaGreatQ1
import Derived.ProofKit
import Derived.OpenShut
import Derived.ShutString
import Derived.ChangeOld
namespace Go.Proofs.YtbccfiillleimaaGreat
set_option linter.unusedSimpArgs false
set_option linter.unusedVariables false
set_option linter.unusedSectionVars false
set_option maxRecDepth 4000
open Go.RowKit
theorem indexFuncStr_c (xs : List Str) (p : Str → Bool) (g : FuncId) (caps : List T) (H : ∀ x ∈ xs, FC Tryz.prog g (sD x :: caps.map .one) [bD (p x)]) : FC Tryz.prog 202 [.one (strS xs), .one (.fn g caps)] [iD (idxP xs p)] := by
 refine FC_wf (fun hw => ?_) Tryz.call202
 have hl : xs.length ≤ 9223372036854775807 := by simpa [wfDs, wfT] using hw.1.1
 refine FC_of Tryz.call202 Tryz.func202 rfl (by kernel_rfl) (by simp only [rd, List.map_cons, List.map_nil, List.length_cons, List.length_nil, Tryz.ntmps202]; omega) ?_
 simp -implicitDefEqProofs only [go_sem, Tryz.results202]
 refine loop_rule (fun k : Nat => hd [(0, vT (strS xs)), (1, vT (.fn g caps)), (7, vI xs.length), (8, vI k)] [] []) (fun k => k ≤ xs.length ∧ ∀ x ∈ xs.take k, p x = false) (fun k => xs.length - k) 0 (weak_hd ?_) ?_ ?_
 ·simp -implicitDefEqProofs only [go_sem]
 ·simp
 ·intro k ⟨hk, hr⟩
  by_cases hlt : k < xs.length
  ·simp -implicitDefEqProofs only [go_sem, getD_at, hlt, ne_eq]
   refine callF (H xs[k] (List.getElem_mem hlt)) (by simp -implicitDefEqProofs only [go_sem, ne_eq]) ?_
   simp -implicitDefEqProofs only [go_sem, ne_eq]
   refine ⟨fun h => ?_, fun h => ⟨k + 1, ⟨hlt, take_all_succ hlt hr h⟩, by omega, weak_hd (by simp -implicitDefEqProofs only [go_sem]; rw [wrap_s (by omega)])⟩⟩
   rw [idxP_found hlt hr h]
  ·simp -implicitDefEqProofs only [go_sem, hlt]
   rw [List.take_of_length_le (by omega)] at hr
   rw [idxP_none hr]
theorem containsFuncStr_c (xs : List Str) (p : Str → Bool) (g : FuncId) (caps : List T) (H : ∀ x ∈ xs, FC Tryz.prog g (sD x :: caps.map .one) [bD (p x)]) : FC Tryz.prog 147 [.one (strS xs), .one (.fn g caps)] [bD (xs.any p)] := by
 refine FC_of Tryz.call147 Tryz.func147 rfl (by kernel_rfl) (by simp only [rd, List.map_cons, List.map_nil, List.length_cons, List.length_nil, Tryz.ntmps147]; omega) ?_
 simp -implicitDefEqProofs only [go_sem, Tryz.results147]
 refine callF (indexFuncStr_c xs p g caps H) (by simp -implicitDefEqProofs only [go_sem]) ?_
 simp -implicitDefEqProofs only [go_sem]
 rw [idxP_any]
end Go.Proofs.YtbccfiillleimaaGreat
namespace Go.Proofs.YtbccfiillleimaaGreat
set_option linter.unusedSimpArgs false
set_option linter.unusedVariables false
set_option linter.unusedSectionVars false
set_option maxRecDepth 4000
open Go.RowKit
noncomputable def expOk (e : Ex) (pos : Bool) : Bool := decide (e.nodes ≤ 60) && e.form.good && (nodeI e pos []).1 && !((nodeI e pos []).2.any fun n => (putSs [] (vf e.form [])).contains n)
theorem isValidExp1_c (V : List Str) (s : Str) : FC Tryz.prog 148 [sD s, .one (.ptr [strS V])] [bD (V.contains s)] := by
 have H := containsStr_c V s
 refine FC_of Tryz.call148 Tryz.func148 rfl (by kernel_rfl) (by simp only [rd, List.map_cons, List.map_nil, List.length_cons, List.length_nil, Tryz.ntmps148]; omega) ?_
 simp -implicitDefEqProofs only [go_sem, Tryz.results148]
 refine callF (H) (by simp -implicitDefEqProofs only [go_sem]) ?_
 simp -implicitDefEqProofs only [go_sem]
theorem isValidExpansion_c (e : Ex) (he : e.wt ≤ 1048576) (pos : Bool) : FC Tryz.prog 87 [exD e, bD pos] [bD (expOk e pos)] := by
 have hv : expOk e pos = (decide (e.nodes ≤ 60) && e.form.good && (nodeI e pos []).1 && !((nodeI e pos []).2.any fun n => (putSs [] (vf e.form [])).contains n)) := rfl
 have HN := nodesOf_c e (by omega)
 have hs := sizeE_le e
 have hfw := form_wt e
 have HG := isValidFormula_c e.form (by omega)
 simp only [exD, exC_eq, fmD, fmC_eq] at HN HG ⊢
 cases hn : decide (e.nodes ≤ 60)
 ·have hs2 : decide (60 < sizeE e) = true := by rw [hn] at hs; rw [decide_eq_true_eq]; rw [decide_eq_false_iff_not] at hs; omega
  rw [hn, Bool.false_and, Bool.false_and, Bool.false_and] at hv
  rw [hv]
  refine FC_ofN Tryz.call87 Tryz.func87 rfl (by kernel_rfl) (by simp only [rd, List.map_cons, List.map_nil, List.length_cons, List.length_nil, Tryz.ntmps87]; omega) ?_
  simp -implicitDefEqProofs only [go_sem, Tryz.results87]
  refine callF (HN) (by simp -implicitDefEqProofs only [go_sem, hs2]) ?_
  simp -implicitDefEqProofs only [go_sem, hs2]
 ·have hs2 : decide (60 < sizeE e) = false := by rw [hn] at hs; rw [decide_eq_false_iff_not]; rw [decide_eq_true_eq] at hs; omega
  cases hg : e.form.good
  ·rw [hn, hg, Bool.true_and, Bool.false_and, Bool.false_and] at hv
   rw [hv]
   rw [hg] at HG
   refine FC_ofN Tryz.call87 Tryz.func87 rfl (by kernel_rfl) (by simp only [rd, List.map_cons, List.map_nil, List.length_cons, List.length_nil, Tryz.ntmps87]; omega) ?_
   simp -implicitDefEqProofs only [go_sem, Tryz.results87]
   refine callF (HN) (by simp -implicitDefEqProofs only [go_sem, hs2]) ?_
   simp -implicitDefEqProofs only [go_sem, hs2]
   refine callF (HG) (by simp -implicitDefEqProofs only [go_sem]) ?_
   simp -implicitDefEqProofs only [go_sem]
  ·rw [hn, hg, Bool.true_and, Bool.true_and] at hv
   rw [hg] at HG
   have HF := free_c e.form (gforms' hg) (by omega)
   have hen := enodes_wt e
   have HI := node_c e he (gforms' hg) pos [] (by simp only [List.length_nil]; omega)
   unfold nodeP at HI
   generalize (nodeI e pos []).1 = b at hv HI
   generalize (nodeI e pos []).2 = E at hv HI
   generalize putSs [] (vf e.form []) = V at hv HF
   have HA := containsFuncStr_c E (fun s => V.contains s) 148 [.ptr [strS V]] fun s _ => isValidExp1_c V s
   simp only [exD, exC_eq, fmD, fmC_eq, List.map_nil] at HI HF
   refine FC_ofN Tryz.call87 Tryz.func87 rfl (by kernel_rfl) (by simp only [rd, List.map_cons, List.map_nil, List.length_cons, List.length_nil, Tryz.ntmps87]; omega) ?_
   simp -implicitDefEqProofs only [go_sem, Tryz.results87]
   refine callF (HN) (by simp -implicitDefEqProofs only [go_sem, hs2]) ?_
   simp -implicitDefEqProofs only [go_sem, hs2]
   refine callF (HG) (by simp -implicitDefEqProofs only [go_sem]) ?_
   simp -implicitDefEqProofs only [go_sem]
   refine callFr (HF) (by simp -implicitDefEqProofs only [go_sem]) ?_
   simp -implicitDefEqProofs only [go_sem]
   refine callPL [4, 5, 6] [21, 22, 23] [17] [] (HI) (by decide) rfl (by simp -implicitDefEqProofs only [go_sem]) (by simp -implicitDefEqProofs only [go_sem]) (by simp -implicitDefEqProofs only [go_sem]) (by simp -implicitDefEqProofs only [go_sem]) ?_
   simp -implicitDefEqProofs only [go_sem]
   refine ⟨fun hb => ?_, fun hb => Or.inl (by rw [hv, hb]; rfl)⟩
   refine callF (HA) (by simp -implicitDefEqProofs only [go_sem]) ?_
   simp -implicitDefEqProofs only [go_sem]
   exact Or.inl (by rw [hv, hb]; rfl)
end Go.Proofs.YtbccfiillleimaaGreat
namespace Go.Proofs.YtbccfiillleimaaGreat
set_option linter.unusedSimpArgs false
set_option linter.unusedVariables false
set_option linter.unusedSectionVars false
set_option maxRecDepth 4000
open Go.RowKit
theorem put_nodes (n : Str) (t : Tm) : ∀ f : Fm, f.forms = true → (putF n t f).2 = true → (putF n t f).1.nodes = f.nodes := fm_ind fun o a v ps ih hf h => by
 have hP := putF_eq n t (.mk o a v ps)
 have hf0 := hf
 rw [Fm.forms_eq, Bool.and_eq_true] at hf0
 obtain ⟨hh, hps⟩ := hf0
 have hps : ∀ x ∈ ps, x.forms = true := List.all_eq_true.1 hps
 cases h3 : o == 3
 ·rw [hP] at h ⊢
  change (if (o == 3) = true then _ else if (isQ o && _) = true then _ else if (isQ o && _) = true then _ else (Fm.mk o (.mk [] []) v ((ps.takeWhile fun x => (putF n t x).2).map fun x => (putF n t x).1), ps.all fun x => (putF n t x).2) : Fm × Bool).2 = true at h
  change (if (o == 3) = true then _ else if (isQ o && _) = true then _ else if (isQ o && _) = true then _ else (Fm.mk o (.mk [] []) v ((ps.takeWhile fun x => (putF n t x).2).map fun x => (putF n t x).1), ps.all fun x => (putF n t x).2) : Fm × Bool).1.nodes = _
  rw [h3, if_neg (by simp)] at h ⊢
  split
  ·rfl
  ·rename_i h1
   rw [if_neg h1] at h
   split
   ·rename_i h2
    rw [if_pos h2] at h; cases h
   ·rename_i h2
    rw [if_neg h2] at h
    have h1 : (ps.all fun x => (putF n t x).2) = true := h
    have hA := List.all_eq_true.1 h1
    have hw : (ps.takeWhile fun x => (putF n t x).2) = ps := by
     have := (takeW_at (l := ps) (p := fun x => (putF n t x).2) (k := ps.length) (Nat.le_refl _) (by rw [List.take_length]; exact hA) fun h => absurd h (Nat.lt_irrefl _)).1
     rw [this, List.take_length]
    rw [hw]
    show (Fm.mk o (.mk [] []) v (ps.map fun x => (putF n t x).1)).nodes = _
    rw [Fm.nodes_eq, Fm.nodes_eq]
    show 1 + ((ps.map fun x => (putF n t x).1).map Fm.nodes).sum = 1 + (ps.map Fm.nodes).sum
    rw [List.map_map]
    show 1 + (ps.map fun x => (putF n t x).1.nodes).sum = _
    rw [List.map_congr_left (g := Fm.nodes) fun x hx => ih x hx (hps x hx) (hA x hx)]
 ·have ho3 : o = 3 := by simpa using h3
  obtain ⟨_, hp⟩ := here_atom (f := .mk o a v ps) hh ho3
  have hp : ps = [] := hp
  rw [hP]
  change (if (o == 3) = true then (Fm.mk o (putT (bnd n t) a) v [], (putT (bnd n t) a).atomOk) else _ : Fm × Bool).1.nodes = _
  rw [h3, if_pos rfl, hp, Fm.nodes_eq, Fm.nodes_eq]
  rfl
theorem same_comm {α : Type} (a b : α) : same a b = same b a := by
 rw [Bool.eq_iff_iff, same_iff, same_iff]; exact eq_comm
theorem sb_put (n : Str) (t : Tm) (q : Fm) (hq : q.good = true) (hn : varOk n = true) (ht : t.good = true) (g : Fm) : ((sbF n t q).2 && same (sbF n t q).1 g) = ((putF n t q).2 && same g (putF n t q).1) := by
 have htn : t.names = true := ((Bool.and_eq_true _ _).mp ht).2
 have hqf := gforms' hq
 have h1 := sub_good n t hn htn q hqf
 have h2 := sub_put n t hn htn q hqf
 unfold sbF
 rw [hq, hn, ht]
 simp only [Bool.and_self, Bool.true_and]
 rw [h1]
 cases hp : (putF n t q).2
 ·simp only [Bool.false_and, Bool.false_eq_true, if_false]
 ·have hpf := put_forms n t q hqf hp
  have hpg : (putF n t q).1.good = true := by
   unfold Fm.good at hq ⊢
   rw [Bool.and_eq_true, decide_eq_true_eq] at hq ⊢
   rw [put_nodes n t q hqf hp]
   exact ⟨hq.1, hpf⟩
  rw [hpg]
  simp only [Bool.and_self, if_true, Bool.true_and]
  rw [h2.2 hp hpf, same_comm]
theorem good_part {f q : Fm} (h : f.good = true) (hm : q ∈ f.parts) : q.good = true := by
 unfold Fm.good at h ⊢
 rw [Bool.and_eq_true, decide_eq_true_eq] at h ⊢
 have hp := part_nodes hm
 have := h.2
 rw [Fm.forms_eq, Bool.and_eq_true] at this
 exact ⟨by omega, List.all_eq_true.1 this.2 q hm⟩
theorem runL_spec : ∀ (L : List (Bool × (List Str → Bool × List Str))) (S : List (Bool × List Str)) (hl : L.length = S.length) (E : List Str), E.Nodup → (∀ i (h : i < L.length), L[i].1 = true → ∀ E : List Str, E.Nodup → ((L[i].2 E).1 = true ↔ (S[i]'(by omega)).1 = true ∧ (E ++ (S[i]'(by omega)).2).Nodup) ∧ ((L[i].2 E).1 = true → (L[i].2 E).2 = E ++ (S[i]'(by omega)).2)) →
  ((runL L E).1 = true ↔ (∀ i (h : i < L.length), L[i].1 = true ∧ (S[i]'(by omega)).1 = true) ∧ (E ++ (S.map Prod.snd).flatten).Nodup) ∧ ((runL L E).1 = true → (runL L E).2 = E ++ (S.map Prod.snd).flatten)
 | [], [], _, E, hE, _ => ⟨⟨fun _ => ⟨fun i h => by simp at h, by simpa using hE⟩, fun _ => rfl⟩, fun _ => by simp [runL]⟩
 | [], _ :: _, hl, _, _, _ => by simp at hl
 | _ :: _, [], hl, _, _, _ => by simp at hl
 | (c, g) :: L, (s, N) :: S, hl, E, hE, h => by
  have hl' : L.length = S.length := by simpa using hl
  cases hc : c
  ·have : runL ((false, g) :: L) E = (false, E) := rfl
   rw [this]
   refine ⟨⟨fun h => (by cases h), fun h => ?_⟩, fun h => (by cases h)⟩
   have := (h.1 0 (by simp)).1
   cases this
  ·subst hc
   obtain ⟨k1, k2⟩ := h 0 (by simp) rfl E hE
   have k1 : (g E).1 = true ↔ s = true ∧ (E ++ N).Nodup := k1
   have k2 : (g E).1 = true → (g E).2 = E ++ N := k2
   cases hg : (g E).1
   ·have e0 : runL ((true, g) :: L) E = (false, (g E).2) := by unfold runL; rw [if_pos rfl, hg, if_neg (by simp)]
    rw [e0]
    rw [hg] at k1
    refine ⟨⟨fun h => (by cases h), fun h => ?_⟩, fun h => (by cases h)⟩
    have h1 := (h.1 0 (by simp)).2
    have h2 : (E ++ N).Nodup := by
     have := h.2
     rw [List.map_cons, List.flatten_cons, ← List.append_assoc] at this
     exact (List.nodup_append.1 this).1
    exact (by have := k1.2 ⟨h1, h2⟩; cases this)
   ·have e0 : runL ((true, g) :: L) E = runL L (g E).2 := by unfold runL; rw [if_pos rfl, hg, if_pos rfl]; cases L <;> rfl
    rw [e0, k2 hg]
    obtain ⟨s1, n1⟩ := k1.1 hg
    obtain ⟨r1, r2⟩ := runL_spec L S hl' (E ++ N) n1 fun i hi hci E hE => by
     have := h (i + 1) (by simpa using hi) (by simpa using hci) E hE
     simpa using this
    rw [List.map_cons, List.flatten_cons, ← List.append_assoc]
    refine ⟨r1.trans ⟨fun ⟨a, b⟩ => ⟨fun i hi => ?_, b⟩, fun ⟨a, b⟩ => ⟨fun i hi => ?_, b⟩⟩, r2⟩
    ·cases i with
     | zero => exact ⟨rfl, s1⟩
     | succ i => exact a i (by simpa using hi)
    ·exact a (i + 1) (by simpa using hi)
end Go.Proofs.YtbccfiillleimaaGreat
namespace Go.Proofs.YtbccfiillleimaaGreat
set_option linter.unusedSimpArgs false
set_option linter.unusedVariables false
set_option linter.unusedSectionVars false
set_option maxRecDepth 4000
open Go.RowKit
theorem all_iff {ps : List Ex} (t : Nat → Ex → Bool) (s : Nat → Ex → Bool) : (ps.mapIdx fun i p => (t i p && s i p)).all id = true ↔ ∀ i (h : i < ps.length), t i ps[i] = true ∧ s i ps[i] = true := by
 rw [List.all_eq_true]
 constructor
 ·intro h i hi
  have := h _ (List.getElem_mem (l := ps.mapIdx fun i p => (t i p && s i p)) (n := i) (by simpa using hi))
  simpa only [List.getElem_mapIdx, id, Bool.and_eq_true] using this
 ·intro h x hx
  obtain ⟨i, hi, rfl⟩ := List.getElem_of_mem hx
  have hi' : i < ps.length := by simpa using hi
  simp only [List.getElem_mapIdx, id, Bool.and_eq_true]
  exact h i hi'
theorem parts_spec (ps : List Ex) (t : Nat → Ex → Bool) (sg : Nat → Bool) (ih : ∀ i (h : i < ps.length), t i ps[i] = true → ∀ E : List Str, E.Nodup → ((nodeI ps[i] (sg i) E).1 = true ↔ nodeS ps[i] (sg i) = true ∧ (E ++ namesS ps[i] (sg i)).Nodup) ∧ ((nodeI ps[i] (sg i) E).1 = true → (nodeI ps[i] (sg i) E).2 = E ++ namesS ps[i] (sg i))) (E : List Str) (hE : E.Nodup) :
  ((runL (ps.mapIdx fun i p => (t i p, nodeI p (sg i))) E).1 = true ↔ (ps.mapIdx fun i p => (t i p && nodeS p (sg i))).all id = true ∧ (E ++ (ps.mapIdx fun i p => namesS p (sg i)).flatten).Nodup) ∧ ((runL (ps.mapIdx fun i p => (t i p, nodeI p (sg i))) E).1 = true → (runL (ps.mapIdx fun i p => (t i p, nodeI p (sg i))) E).2 = E ++ (ps.mapIdx fun i p => namesS p (sg i)).flatten) := by
 have h := runL_spec (ps.mapIdx fun i p => (t i p, nodeI p (sg i))) (ps.mapIdx fun i p => (nodeS p (sg i), namesS p (sg i))) (by simp) E hE fun i hi hc E hE => by
  have hi' : i < ps.length := by simpa using hi
  simp only [List.getElem_mapIdx] at hc ⊢
  exact ih i hi' hc E hE
 have em : (ps.mapIdx fun i p => (nodeS p (sg i), namesS p (sg i))).map Prod.snd = ps.mapIdx fun i p => namesS p (sg i) := by
  refine List.ext_getElem? fun i => ?_
  simp only [List.getElem?_map, List.getElem?_mapIdx, Option.map_map, Function.comp_def]
 rw [em] at h
 refine ⟨h.1.trans (and_congr_left fun _ => ?_), h.2⟩
 rw [all_iff]
 constructor
 ·intro a i hi
  have := a i (by simpa using hi)
  simpa only [List.getElem_mapIdx] using this
 ·intro a i hi
  have := a i (by simpa using hi)
  simpa only [List.getElem_mapIdx] using this
theorem node_spec : ∀ e : Ex, e.form.good = true → ∀ pos (E : List Str), E.Nodup → ((nodeI e pos E).1 = true ↔ nodeS e pos = true ∧ (E ++ namesS e pos).Nodup) ∧ ((nodeI e pos E).1 = true → (nodeI e pos E).2 = E ++ namesS e pos) := ex_ind fun f ts ps ih hg pos E hE => by
 rw [nodeI_eq, nodeS_eq, namesS_eq]
 have hg : f.good = true := hg
 have eF : (Ex.mk f ts ps).form = f := rfl
 have eT : (Ex.mk f ts ps).terms = ts := rfl
 have eP : (Ex.mk f ts ps).parts = ps := rfl
 simp only [eF, eT, eP]
 cases hq : isQ f.op
 ·have hst : strongE f pos = false := by unfold strongE; rw [hq]; rfl
  rw [hst]
  simp only [Bool.false_eq_true, if_false, List.nil_append]
  by_cases hc : ts.length = 0 ∧ ps.length = f.parts.length
  ·rw [if_pos hc]
   have h := parts_spec ps (tstN f) (fun i => sgn f i pos) (fun i hi ht E hE => ih ps[i] (List.getElem_mem hi) (by
    have hif : i < f.parts.length := by omega
    unfold tstN at ht
    rw [getD_eq hif] at ht
    rw [← same_iff.1 ht]
    exact good_part hg (List.getElem_mem hif)) _ E hE) E hE
   rw [show decide (ts.length = 0) = true by simp [hc.1], show decide (ps.length = f.parts.length) = true by simp [hc.2], Bool.true_and, Bool.true_and]
   have e1 : (fun (i : Nat) (p : Ex) => (same p.form (f.parts.getD i (mkF 0 [])) && nodeS p (sgn f i pos))) = fun i p => (tstN f i p && nodeS p (sgn f i pos)) := by
    funext i p; unfold tstN; rw [same_comm]
   rw [e1]
   exact h
  ·rw [if_neg hc]
   refine ⟨⟨fun h => (by cases h), fun h => ?_⟩, fun h => (by cases h)⟩
   have h := h.1
   simp only [Bool.and_eq_true, decide_eq_true_eq] at h
   exact absurd h.1 hc
 ·obtain ⟨q, hp, hqf⟩ := q_parts hq (gforms' hg)
  have hqg : q.good = true := good_part hg (by rw [hp]; simp)
  have hvar : varOk f.var = true := by
   have := gforms' hg
   rw [Fm.forms_eq, Bool.and_eq_true] at this
   exact here_q this.1 hq
  have esg : (fun (i : Nat) (p : Ex) => namesS p (sgn f i pos)) = fun i p => namesS p pos := by funext i p; rw [sgn_q hq]
  have hse : strongE f pos = ((f.op == 8) == pos) := by unfold strongE; rw [hq, Bool.true_and]
  simp only [if_true]
  rw [esg]
  have core : TOk ts → ts.length = ps.length → ∀ E1 : List Str, E1.Nodup → ((runL (ps.mapIdx fun i p => (tstQ f ts i p, nodeI p pos)) E1).1 = true ↔ (ps.mapIdx fun i p => (tstS f ts i p && nodeS p pos)).all id = true ∧ (E1 ++ (ps.mapIdx fun i p => namesS p pos).flatten).Nodup) ∧ ((runL (ps.mapIdx fun i p => (tstQ f ts i p, nodeI p pos)) E1).1 = true → (runL (ps.mapIdx fun i p => (tstQ f ts i p, nodeI p pos)) E1).2 = E1 ++ (ps.mapIdx fun i p => namesS p pos).flatten) := fun hT hl E1 hE1 => by
   have et : ∀ i (h : i < ps.length), tstQ f ts i ps[i] = tstS f ts i ps[i] := fun i hi => by
    have hit : i < ts.length := by omega
    obtain ⟨g1, g2⟩ := hT i hit
    have hpq : f.parts.getD 0 (mkF 0 []) = q := by
     have hp : f.parts = [q] := hp
     rw [hp]; rfl
    unfold tstQ tstS
    rw [getD_eq hit, hpq, sb_put f.var ts[i] q hqg hvar g1, g1, g2]
    simp only [Bool.not_false, Bool.and_self, Bool.true_and]
   have em : (ps.mapIdx fun i p => (tstQ f ts i p, nodeI p pos)) = ps.mapIdx fun i p => (tstS f ts i p, nodeI p pos) := by
    refine List.ext_getElem (by simp) fun i h1 h2 => ?_
    simp only [List.getElem_mapIdx]
    rw [et i (by simpa using h1)]
   rw [em]
   refine parts_spec ps (tstS f ts) (fun _ => pos) (fun i hi ht E hE => ih ps[i] (List.getElem_mem hi) ?_ _ E hE) E1 hE1
   have hit : i < ts.length := by omega
   have hpq : f.parts.getD 0 (mkF 0 []) = q := by
    have hp : f.parts = [q] := hp
    rw [hp]; rfl
   unfold tstS at ht
   rw [getD_eq hit, hpq] at ht
   simp only [Bool.and_eq_true] at ht
   rw [same_iff.1 ht.2]
   unfold Fm.good at hqg ⊢
   rw [Bool.and_eq_true, decide_eq_true_eq] at hqg ⊢
   rw [put_nodes _ _ q hqf ht.1.2]
   exact ⟨hqg.1, put_forms _ _ q hqf ht.1.2⟩
  have hTS : ts.length = ps.length → (ps.mapIdx fun i p => (tstS f ts i p && nodeS p pos)).all id = true → TOk ts := fun hl h k hk => by
   have h := (all_iff (tstS f ts) (fun _ p => nodeS p pos)).1 h k (by omega)
   have h := h.1
   unfold tstS at h
   rw [getD_eq hk] at h
   simp only [Bool.and_eq_true, Bool.not_eq_true'] at h
   exact ⟨h.1.1.1, h.1.1.2⟩
  unfold termsI
  simp only [eF, eT, eP]
  cases hd : dec (TOk ts)
  ·rw [if_neg (by simp)]
   simp only [Bool.false_eq_true, if_false, false_iff, false_implies, and_true]
   rintro ⟨h1, _⟩
   simp only [Bool.and_eq_true, decide_eq_true_eq] at h1
   exact dec_no.1 hd (hTS h1.1.1 h1.2)
  ·have hT : TOk ts := dec_iff.1 hd
   rw [if_pos rfl, ← hse]
   cases hst : strongE f pos
   ·simp only [Bool.false_eq_true, if_false, Bool.not_false, Bool.true_or, Bool.and_true, List.nil_append]
    by_cases hl : ps.length = ts.length
    ·have hl' : ts.length = ps.length := hl.symm
     rw [show decide (ps.length = ts.length) = true by simp [hl], show decide (ts.length = ps.length) = true by simp [hl'], if_pos rfl, Bool.true_and]
     exact core hT hl' E hE
    ·rw [show decide (ps.length = ts.length) = false by simp [hl], show decide (ts.length = ps.length) = false by simp; omega]
     simp
   ·simp only [if_true, Bool.not_true, Bool.false_or]
    have hbad : ts.length ≠ 1 → ∀ X : Prop, ¬ ((decide (ts.length = ps.length) && (decide (ts.length = 1) && varOk (ts.getD 0 Tm.zero).name) && (ps.mapIdx fun i p => (tstS f ts i p && nodeS p pos)).all id) = true ∧ X) := fun h X hh => by
     have := hh.1
     simp only [Bool.and_eq_true, decide_eq_true_eq] at this
     exact h this.1.2.1
    match ts, hT, core, hbad with
    | [], _, _, hbad => exact ⟨⟨fun h => (by cases h), fun h => absurd h (hbad (by simp) _)⟩, fun h => (by cases h)⟩
    | _ :: _ :: _, _, _, hbad => exact ⟨⟨fun h => (by cases h), fun h => absurd h (hbad (by simp) _)⟩, fun h => (by cases h)⟩
    | [t], hT, core, _ =>
     have e0 : ([t].getD 0 Tm.zero) = t := rfl
     simp only [e0, List.length_singleton, decide_true, Bool.true_and]
     cases hv : varOk t.name
     ·simp only [Bool.false_and, Bool.false_eq_true, if_false, Bool.and_false, false_and, iff_false, not_false_eq_true, false_implies, and_self]
     ·cases hcn : E.contains t.name
      ·have hn : t.name ∉ E := fun hm => by rw [List.contains_iff_mem.2 hm] at hcn; cases hcn
       have hE1 : (E ++ [t.name]).Nodup := by
        rw [List.nodup_append]
        refine ⟨hE, by simp, ?_⟩
        rintro a ha b hb rfl
        rw [List.mem_singleton] at hb
        subst hb; exact hn ha
       by_cases hl : ps.length = 1
       ·simp only [Bool.true_and, Bool.not_false, if_true, hl, decide_true, Bool.and_true]
        have := core hT hl.symm (E ++ [t.name]) hE1
        rw [List.append_assoc] at this
        exact this
       ·have hl2 : ¬ 1 = ps.length := fun h => hl h.symm
        simp only [Bool.true_and, Bool.not_false, if_true, hl, hl2, decide_false, Bool.false_eq_true, if_false, Bool.false_and, false_and, iff_false, not_false_eq_true, false_implies, and_self]
      ·simp only [Bool.not_true, Bool.and_false, Bool.false_eq_true, if_false, false_iff, false_implies, and_true]
       rintro ⟨_, h⟩
       have hm : t.name ∈ E := List.contains_iff_mem.1 hcn
       have := (List.nodup_append.1 h).2.2 _ hm t.name (by simp)
       exact this rfl
theorem exp_spec (e : Ex) (pos : Bool) : expOk e pos = specOk e pos := by
 unfold expOk specOk
 cases hg : e.form.good
 ·simp
 ·obtain ⟨h1, h2⟩ := node_spec e hg pos [] List.nodup_nil
  rw [List.nil_append] at h1 h2
  cases hn : decide (e.nodes ≤ 60)
  ·simp
  ·simp only [Bool.true_and]
   rw [Bool.eq_iff_iff, Bool.and_eq_true, Bool.and_eq_true, h1, dec_iff]
   constructor
   ·rintro ⟨⟨a, b⟩, c⟩
    refine ⟨a, b, fun n hn hm => ?_⟩
    rw [h2 (h1.2 ⟨a, b⟩), Bool.not_eq_true', List.any_eq_false] at c
    exact c n hn (List.contains_iff_mem.2 hm)
   ·rintro ⟨a, b, c⟩
    refine ⟨⟨a, b⟩, ?_⟩
    rw [h2 (h1.2 ⟨a, b⟩), Bool.not_eq_true', List.any_eq_false]
    exact fun n hn hm => c n hn (List.contains_iff_mem.1 hm)
end Go.Proofs.YtbccfiillleimaaGreat
namespace Go.Proofs.YtbccfiillleimaaGreat
set_option linter.unusedSimpArgs false
set_option linter.unusedVariables false
set_option linter.unusedSectionVars false
set_option maxRecDepth 4000
open Go.RowKit
def deepJ (f : Fm) (L : List Fm) (pos : Bool) : Fm :=
 if isQ f.op = true then (if ((f.op == 8) == pos) = true then L.getD 0 (mkF 0 []) else if (f.op == 9) = true then joinF 6 L (mkF 2 []) else joinF 5 L (mkF 1 []))
 else .mk f.op f.atom [] L
def deepF : Ex → Bool → Fm := Ex.fold fun f _ ps rs pos => deepJ f ((ps.zip rs).mapIdx fun i q => q.2 (sgn f i pos)) pos
abbrev deepL (e : Ex) (pos : Bool) : List Fm := e.parts.mapIdx fun i p => deepF p (sgn e.form i pos)
theorem deepF_eq (e : Ex) (pos : Bool) : deepF e pos = deepJ e.form (deepL e pos) pos := by
 cases e with
 | mk f ts ps =>
  conv => lhs; unfold deepF; rw [Ex.fold_eq]
  simp only [zip_map]
  rfl
theorem deepL_len (e : Ex) (pos : Bool) : (deepL e pos).length = e.parts.length := by simp
theorem map_mapIdx' {α β γ : Type} (f : β → γ) (g : Nat → α → β) (l : List α) : (l.mapIdx g).map f = l.mapIdx fun i a => f (g i a) := List.ext_getElem (by simp) fun i h1 h2 => by simp
theorem sum_mapIdx_le {α : Type} (g : Nat → α → Nat) (h : α → Nat) : ∀ (ps : List α), (∀ i (hi : i < ps.length), g i ps[i] ≤ h ps[i]) → (ps.mapIdx g).sum ≤ (ps.map h).sum
 | [], _ => by simp
 | p :: ps, H => by
  rw [List.mapIdx_cons, List.map_cons, List.sum_cons, List.sum_cons]
  have h0 := H 0 (by simp)
  have h1 := sum_mapIdx_le (fun i => g (i + 1)) h ps fun i hi => by
   have := H (i + 1) (by simpa using hi)
   simpa using this
  simp only [List.getElem_cons_zero] at h0
  omega
theorem nodeS_len {e : Ex} {pos : Bool} (h : nodeS e pos = true) : (isQ e.form.op = true → e.terms.length = e.parts.length) ∧ (isQ e.form.op = false → e.parts.length = e.form.parts.length) := by
 rw [nodeS_eq] at h
 cases hq : isQ e.form.op
 ·rw [hq, if_neg (by simp)] at h
  simp only [Bool.and_eq_true, decide_eq_true_eq] at h
  exact ⟨fun h => (by cases h), fun _ => h.1.2⟩
 ·rw [hq, if_pos rfl] at h
  simp only [Bool.and_eq_true, decide_eq_true_eq] at h
  exact ⟨fun _ => h.1.1, fun h => (by cases h)⟩
theorem strong_one {e : Ex} {pos : Bool} (h : nodeS e pos = true) (hs : strongE e.form pos = true) : e.terms.length = 1 ∧ e.parts.length = 1 := by
 have h1 := (nodeS_parts h).2 hs
 have hq : isQ e.form.op = true := by unfold strongE at hs; rw [Bool.and_eq_true] at hs; exact hs.1
 have : e.terms.length = e.parts.length := by
  rw [nodeS_eq, hq, if_pos rfl] at h
  simp only [Bool.and_eq_true, decide_eq_true_eq] at h
  exact h.1.1
 omega
theorem getD_sum (L : List Fm) (z : Fm) (k : Nat) : (L.getD k z).wt ≤ (L.map Fm.wt).sum + z.wt := by
 by_cases h : k < L.length
 ·rw [getD_eq h]
  have := mem_sum Fm.wt L _ (List.getElem_mem h); omega
 ·rw [List.getD_eq_getElem?_getD, List.getElem?_eq_none (by omega)]
  show z.wt ≤ _; omega
theorem mkFn_wt (o : Int) : (mkF o []).wt = 0 := by rw [wt_mkF]; simp
theorem deepF_wt : ∀ (e : Ex) (pos : Bool), nodeS e pos = true → (deepF e pos).wt ≤ e.wt ∧ (deepL e pos).length + ((deepL e pos).map Fm.wt).sum ≤ e.wt := ex_ind fun f ts ps ih pos hn => by
 have hp := (nodeS_parts hn).1
 have hl := nodeS_len hn
 have hs : ((deepL (.mk f ts ps) pos).map Fm.wt).sum ≤ (ps.map Ex.wt).sum := by
  unfold deepL
  rw [map_mapIdx']
  exact sum_mapIdx_le _ _ _ fun i hi => (ih ps[i] (List.getElem_mem hi) _ (hp i hi)).1
 have hW : (Ex.mk f ts ps).wt = f.wt + tmsW ts + (ps.length + (ps.map Ex.wt).sum) := Ex.wt_eq _
 have hlen : (deepL (.mk f ts ps) pos).length = ps.length := deepL_len _ _
 have hT : tmsW ts = ts.length + (ts.map Tm.wt).sum := rfl
 refine ⟨?_, by omega⟩
 rw [deepF_eq]
 generalize deepL (.mk f ts ps) pos = L at hs hlen
 show (deepJ f L pos).wt ≤ _
 have hl1 : isQ f.op = true → ts.length = ps.length := hl.1
 unfold deepJ
 cases hq : isQ f.op
 ·rw [if_neg (by simp), Fm.wt_eq]
  show f.atom.wt + 0 + L.length + (L.map Fm.wt).sum ≤ _
  have := f.wt_eq; omega
 ·rw [if_pos rfl]
  have hl2 := hl1 hq
  have g0 := getD_sum L (mkF 0 []) 0
  have g1 := join_wt 6 (mkF 2 []) L
  have g2 := join_wt 5 (mkF 1 []) L
  rw [mkFn_wt] at g0 g1 g2
  split
  ·omega
  ·split
   ·omega
   ·omega
theorem here_of {f : Fm} (hf : f.forms = true) : f.here = true := by
 rw [Fm.forms_eq, Bool.and_eq_true] at hf; exact hf.1
theorem here_var {f : Fm} (h : f.here = true) (hq : isQ f.op = false) : f.var = [] := by
 unfold Fm.here at h
 rw [hq] at h
 simp only [Bool.false_eq_true, if_false] at h
 (repeat' split at h) <;> first | (simp only [Bool.and_eq_true, beq_iff_eq] at h; exact h.2) | cases h
theorem here_atom' {f : Fm} (h : f.here = true) (h3 : (f.op == 3) = true) : f.parts.length = 0 := by
 rw [(here_atom h (by simpa using h3)).2]; rfl
theorem deepJ_none {f : Fm} (hf : f.forms = true) (h : f.parts.length = 0) (pos : Bool) : deepJ f [] pos = f := by
 have hq : isQ f.op = false := by
  cases hq : isQ f.op
  ·rfl
  ·obtain ⟨q, hp, _⟩ := q_parts hq hf
   rw [hp] at h; simp at h
 have hv : f.var = [] := here_var (here_of hf) hq
 have hp : f.parts = [] := List.length_eq_zero_iff.1 h
 unfold deepJ
 rw [hq, if_neg (by simp)]
 cases f with
 | mk o a v ps =>
  subst hv; subst hp; rfl
theorem deepJ_some {f : Fm} (hf : f.forms = true) (h : f.parts.length ≠ 0) (hq : isQ f.op = false) (L : List Fm) (pos : Bool) : deepJ f L pos = mkF f.op L := by
 have ha : f.atom = .mk [] [] := here_none (here_of hf) (by
  cases h3 : f.op == 3
  ·rfl
  ·exact absurd (here_atom' (here_of hf) h3) h)
 unfold deepJ
 rw [hq, if_neg (by simp), ha]
 rfl
end Go.Proofs.YtbccfiillleimaaGreat
namespace Go.Proofs.YtbccfiillleimaaGreat
set_option linter.unusedSimpArgs false
set_option linter.unusedVariables false
set_option linter.unusedSectionVars false
set_option maxRecDepth 4000
open Go.RowKit
theorem strongE_q {f : Fm} {pos : Bool} (hq : isQ f.op = true) : strongE f pos = ((f.op == 8) == pos) := by unfold strongE; rw [hq, Bool.true_and]
theorem deepL_take (e : Ex) (pos : Bool) {k : Nat} (hlt : k < e.parts.length) : (deepL e pos).take (k + 1) = (deepL e pos).take k ++ [deepF e.parts[k] (sgn e.form k pos)] := by
 rw [List.take_succ_eq_append_getElem (by rw [deepL_len]; exact hlt), List.getElem_mapIdx]
theorem nodeS_forms {e : Ex} {pos : Bool} (hn : nodeS e pos = true) (hf : e.form.forms = true) : ∀ i (hi : i < e.parts.length), e.parts[i].form.forms = true := by
 intro i hi
 rw [nodeS_eq] at hn
 cases hq : isQ e.form.op
 ·rw [hq, if_neg (by simp)] at hn
  simp only [Bool.and_eq_true, decide_eq_true_eq] at hn
  have h1 := (all_iff (ps := e.parts) (fun i p => same p.form (e.form.parts.getD i (mkF 0 []))) (fun i p => nodeS p (sgn e.form i pos))).1 hn.2 i hi
  have hi2 : i < e.form.parts.length := by omega
  rw [same_iff.1 h1.1, getD_eq hi2]
  rw [Fm.forms_eq, Bool.and_eq_true] at hf
  exact List.all_eq_true.1 hf.2 _ (List.getElem_mem hi2)
 ·rw [hq, if_pos rfl] at hn
  simp only [Bool.and_eq_true, decide_eq_true_eq] at hn
  have h1 := (all_iff (ps := e.parts) (fun i p => tstS e.form e.terms i p) (fun i p => nodeS p pos)).1 hn.2 i hi
  obtain ⟨q, hp, hqf⟩ := q_parts hq hf
  have h2 := h1.1
  unfold tstS at h2
  simp only [Bool.and_eq_true] at h2
  rw [same_iff.1 h2.2]
  refine put_forms _ _ _ ?_ h2.1.2
  rw [hp]; exact hqf
set_option maxHeartbeats 4000000 in
theorem deep_of (e : Ex) (he : e.wt ≤ 1048576) (pos : Bool) (hn : nodeS e pos = true) (H : ∀ p ∈ e.parts, ∀ pos, nodeS p pos = true → FC Tryz.prog 88 [exD p, bD pos] [fmD (deepF p pos)]) : FC Tryz.prog 88 [exD e, bD pos] [fmD (deepF e pos)] := by
 have hv := deepF_eq e pos
 have hW := e.wt_eq
 have hfw := e.form.wt_eq
 obtain ⟨hpts, hst1⟩ := nodeS_parts hn
 have hLl := deepL_len e pos
 have HQ := isQuantifier_c e.form.op
 have HCo := copyTerm_c e.form.atom (by omega)
 have HSt := isStrong_c e.form pos
 have hLs := (deepF_wt e pos hn).2
 have hLk := fun k (hlt : k < e.parts.length) => deepL_take e pos hlt
 generalize deepL e pos = L at hv hLl hLk hLs
 have hLW : fmsW L ≤ 1048576 := by unfold fmsW; omega
 rw [hv]
 have hR : ∃ R, deepJ e.form L pos = R := ⟨_, rfl⟩
 obtain ⟨R, hR⟩ := hR
 rw [hR]
 simp only [exD, exC_eq, fmD, fmC_eq e.form, fmC_eq R, tmD, tmC_eq e.form.atom] at HSt HCo ⊢
 refine FC_ofS Tryz.call88 Tryz.func88 rfl (by kernel_rfl) (by simp only [rd, List.map_cons, List.map_nil, List.length_cons, List.length_nil, Tryz.ntmps88]; omega) ?_
 simp -implicitDefEqProofs only [go_sem, Tryz.results88]
 refine buildDc (by simp -implicitDefEqProofs only [go_sem]) ?_
 simp -implicitDefEqProofs only [go_sem]
 refine loop_rule (fun k : Nat => hd [(1, vT (.bool pos)), (4, .one (.bx 4 0)), (5, .one (.bx 5 0)), (6, .one (.ow 352 0)), (13, vT (exS e.parts)), (14, vI e.parts.length), (15, vI k)] [(4, [.t (.int .i64 0), .t (.str []), .nl 2, .t (.str []), .nl 5]), (5, [.t (.int .i64 e.form.op), .t (.str e.form.atom.name), .t (tmS e.form.atom.args), .t (.str e.form.var), .t (fmS e.form.parts)])] [(352, ⟨true, 5, (L.take k).map fmC, 0, true⟩)]) (fun k => k ≤ e.parts.length) (fun k => e.parts.length - k) 0 (weak_hd ?_) (Nat.zero_le _) ?_
 ·simp -implicitDefEqProofs only [go_sem]
 ·intro k hk
  by_cases hlt : k < e.parts.length
  ·have hLk := hLk k hlt
   have HPo := polarity_c e.form k pos
   have hsg : (pos != (e.form.op == 4 || (e.form.op == 7 && ((k : Int) == 0)))) = sgn e.form k pos := rfl
   rw [hsg] at HPo
   have HC := H e.parts[k] (List.getElem_mem hlt) (sgn e.form k pos) (hpts k hlt)
   have hmin : min k L.length + 1 ≤ 4294967296 := by omega
   have hmin2 : min k L.length ≤ 4294967295 := by omega
   simp only [fmD, fmC_eq e.form, exD, exC_eq e.parts[k], fmC_eq (deepF e.parts[k] (sgn e.form k pos))] at HPo HC
   simp -implicitDefEqProofs only [go_sem, hlt, getD_at, exC_eq e.parts[k]]
   refine drawn (by kernel_rfl) ?_
   simp -implicitDefEqProofs only [go_sem]
   refine dCallF (HPo) (by simp -implicitDefEqProofs only [go_sem]) ?_
   simp -implicitDefEqProofs only [go_sem]
   refine dCallF (HC) (by simp -implicitDefEqProofs only [go_sem]) ?_
   simp -implicitDefEqProofs only [go_sem]
   refine dBuildDc (by simp -implicitDefEqProofs only [go_sem]) ?_
   simp -implicitDefEqProofs only [go_sem]
   refine dApD true (by simp -implicitDefEqProofs only [go_sem, ne_eq, List.length_map, List.length_take, hmin, hmin2]) ?_
   simp -implicitDefEqProofs only [go_sem, ne_eq, List.length_map, List.length_take, hmin, hmin2]
   refine ⟨by kernel_rfl, k + 1, hlt, by omega, weak_hd ?_⟩
   simp -implicitDefEqProofs only [go_sem]
   rw [wrap_s (by omega), hLk, List.map_append, List.map_singleton, fmC_eq (deepF _ _)]
   exact ⟨rfl, rfl⟩
  ·have ht : L.take k = L := List.take_of_length_le (by omega)
   rw [ht]
   cases hq : isQ e.form.op
   ·have hRe : R = .mk e.form.op e.form.atom [] L := by rw [← hR]; unfold deepJ; rw [hq]; rfl
    rw [hq] at HQ
    subst hRe
    simp -implicitDefEqProofs only [go_sem, hlt]
    refine callF (HQ) (by simp -implicitDefEqProofs only [go_sem]) ?_
    simp -implicitDefEqProofs only [go_sem]
    refine drawn (by kernel_rfl) ?_
    simp -implicitDefEqProofs only [go_sem]
    refine dCallF (HCo) (by simp -implicitDefEqProofs only [go_sem]) ?_
    simp -implicitDefEqProofs only [go_sem]
    exact ⟨by kernel_rfl, Or.inl ⟨rfl, rfl, rfl, rfl, rfl⟩⟩
   ·rw [hq] at HQ
    cases hs : (e.form.op == 8) == pos
    ·rw [hs] at HSt
     cases h9 : e.form.op == 9
     ·have HJ := combined_c 5 L (mkF 1 [])
      have hJ : joinF 5 L (mkF 1 []) = R := by rw [← hR]; unfold deepJ; rw [hq, hs, h9]; rfl
      rw [hJ] at HJ
      simp only [fmD, fmC_mkF, List.map_nil, fmC_eq R] at HJ
      simp -implicitDefEqProofs only [go_sem, hlt]
      refine callF (HQ) (by simp -implicitDefEqProofs only [go_sem]) ?_
      simp -implicitDefEqProofs only [go_sem]
      refine callF (HSt) (by simp -implicitDefEqProofs only [go_sem, h9]) ?_
      simp -implicitDefEqProofs only [go_sem, h9]
      refine callGL [4] [56, 57] [] (HJ) (by simp -implicitDefEqProofs only [go_sem]) (by simp -implicitDefEqProofs only [go_sem]) (by simp -implicitDefEqProofs only [go_sem]) (by simp -implicitDefEqProofs only [go_sem]) ?_
      simp -implicitDefEqProofs only [go_sem]
     ·have HJ := combined_c 6 L (mkF 2 [])
      have hJ : joinF 6 L (mkF 2 []) = R := by rw [← hR]; unfold deepJ; rw [hq, hs, h9]; rfl
      rw [hJ] at HJ
      simp only [fmD, fmC_mkF, List.map_nil, fmC_eq R] at HJ
      simp -implicitDefEqProofs only [go_sem, hlt]
      refine callF (HQ) (by simp -implicitDefEqProofs only [go_sem]) ?_
      simp -implicitDefEqProofs only [go_sem]
      refine callF (HSt) (by simp -implicitDefEqProofs only [go_sem, h9]) ?_
      simp -implicitDefEqProofs only [go_sem, h9]
      refine callGL [4] [53, 54] [] (HJ) (by simp -implicitDefEqProofs only [go_sem]) (by simp -implicitDefEqProofs only [go_sem]) (by simp -implicitDefEqProofs only [go_sem]) (by simp -implicitDefEqProofs only [go_sem]) ?_
      simp -implicitDefEqProofs only [go_sem]
    ·have h1 := strong_one hn (by rw [strongE_q hq, hs])
     obtain ⟨x, hx⟩ := List.length_eq_one_iff.1 (hLl.trans h1.2)
     subst hx
     have hJ : x = R := by rw [← hR]; unfold deepJ; rw [hq, hs]; rfl
     subst hJ
     rw [hs] at HSt
     simp -implicitDefEqProofs only [go_sem, hlt, List.map_cons, List.map_nil, fmC_eq x]
     refine callF (HQ) (by simp -implicitDefEqProofs only [go_sem]) ?_
     simp -implicitDefEqProofs only [go_sem]
     refine callFPe 352 (HSt) (by simp -implicitDefEqProofs only [go_sem]) (by simp -implicitDefEqProofs only [go_sem]) fun vs => ?_
     simp -implicitDefEqProofs only [go_sem]
     refine ⟨[(352, 0, 2), (352, 0, 4)], ?_⟩
     simp -implicitDefEqProofs only [go_sem]
theorem deep_c : ∀ e : Ex, e.wt ≤ 1048576 → ∀ pos, nodeS e pos = true → FC Tryz.prog 88 [exD e, bD pos] [fmD (deepF e pos)] :=
 ex_ind fun f ts ps ih he pos hn => deep_of (.mk f ts ps) he pos hn fun p hp pos hn => ih p hp (Nat.le_trans (eparts_wt (a := .mk f ts ps) hp) he) pos hn
set_option maxHeartbeats 4000000 in
theorem l17Deep_of (e : Ex) (he : e.wt ≤ 1048576) (hf : e.form.forms = true) (pos : Bool) (hn : nodeS e pos = true) (H : ∀ p ∈ e.parts, p.form.forms = true → ∀ pos, nodeS p pos = true → FC Tryz.prog 84 [exD p, bD pos] [fmD (deepF p pos)]) : FC Tryz.prog 84 [exD e, bD pos] [fmD (deepF e pos)] := by
 have hv := deepF_eq e pos
 have hW := e.wt_eq
 have hfw := e.form.wt_eq
 obtain ⟨hpts, hst1⟩ := nodeS_parts hn
 have hLl := deepL_len e pos
 have hfo := nodeS_forms hn hf
 have hnl := nodeS_len hn
 have HQ := l17Quantifier_c e.form
 have HO := l8Own_c e.form (by omega)
 have HSt := l17Strong_c e.form pos
 have hse : (isQ e.form.op && ((e.form.op == 8) == pos)) = strongE e.form pos := rfl
 rw [hse] at HSt
 have hLs := (deepF_wt e pos hn).2
 have hLk := fun k (hlt : k < e.parts.length) => deepL_take e pos hlt
 generalize deepL e pos = L at hv hLl hLk hLs
 have hLW : fmsW L ≤ 1048576 := by unfold fmsW; omega
 rw [hv]
 have hR : ∃ R, deepJ e.form L pos = R := ⟨_, rfl⟩
 obtain ⟨R, hR⟩ := hR
 rw [hR]
 simp only [exD, exC_eq, fmD, fmC_eq e.form, fmC_eq R] at HSt HO HQ ⊢
 refine FC_ofS Tryz.call84 Tryz.func84 rfl (by kernel_rfl) (by simp only [rd, List.map_cons, List.map_nil, List.length_cons, List.length_nil, Tryz.ntmps84]; omega) ?_
 simp -implicitDefEqProofs only [go_sem, Tryz.results84]
 refine buildDc (by simp -implicitDefEqProofs only [go_sem]) ?_
 simp -implicitDefEqProofs only [go_sem]
 refine loop_rule (fun k : Nat => hd [(1, vT (.bool pos)), (2, .one (.bx 2 0)), (4, .one (.bx 4 0)), (5, .one (.bx 5 0)), (6, .one (.ow 320 0)), (7, vI k)] [(2, [.t (.int .i64 e.form.op), .t (.str e.form.atom.name), .t (tmS e.form.atom.args), .t (.str e.form.var), .t (fmS e.form.parts), .t (tmS e.terms), .t (exS e.parts)]), (4, [.t (.int .i64 0), .t (.str []), .nl 2, .t (.str []), .nl 5]), (5, [.t (.int .i64 e.form.op), .t (.str e.form.atom.name), .t (tmS e.form.atom.args), .t (.str e.form.var), .t (fmS e.form.parts)])] [(320, ⟨true, 5, (L.take k).map fmC, 0, true⟩)]) (fun k => k ≤ e.parts.length) (fun k => e.parts.length - k) 0 (weak_hd ?_) (Nat.zero_le _) ?_
 ·simp -implicitDefEqProofs only [go_sem]
 ·intro k hk
  by_cases hlt : k < e.parts.length
  ·have hLk := hLk k hlt
   have HPo := l17Sign_c e.form k pos
   have hsg : (pos != (e.form.op == 4 || (e.form.op == 7 && ((k : Int) == 0)))) = sgn e.form k pos := rfl
   rw [hsg] at HPo
   have HC := H e.parts[k] (List.getElem_mem hlt) (hfo k hlt) (sgn e.form k pos) (hpts k hlt)
   have hmin : min k L.length + 1 ≤ 4294967296 := by omega
   have hmin2 : min k L.length ≤ 4294967295 := by omega
   simp only [fmD, fmC_eq e.form, exD, exC_eq e.parts[k], fmC_eq (deepF e.parts[k] (sgn e.form k pos))] at HPo HC
   simp -implicitDefEqProofs only [go_sem, hlt, getD_at, exC_eq e.parts[k]]
   refine drawn (by kernel_rfl) ?_
   simp -implicitDefEqProofs only [go_sem, hlt, getD_at, exC_eq e.parts[k]]
   refine dCallF (HPo) (by simp -implicitDefEqProofs only [go_sem]) ?_
   simp -implicitDefEqProofs only [go_sem]
   refine dCallF (HC) (by simp -implicitDefEqProofs only [go_sem]) ?_
   simp -implicitDefEqProofs only [go_sem]
   refine dBuildDc (by simp -implicitDefEqProofs only [go_sem]) ?_
   simp -implicitDefEqProofs only [go_sem]
   refine dApD true (by simp -implicitDefEqProofs only [go_sem, ne_eq, List.length_map, List.length_take, hmin, hmin2]) ?_
   simp -implicitDefEqProofs only [go_sem, ne_eq, List.length_map, List.length_take, hmin, hmin2]
   refine ⟨by kernel_rfl, k + 1, hlt, by omega, weak_hd ?_⟩
   simp -implicitDefEqProofs only [go_sem]
   rw [wrap_s (by omega), hLk, List.map_append, List.map_singleton, fmC_eq (deepF _ _)]
   exact ⟨rfl, rfl⟩
  ·have ht : L.take k = L := List.take_of_length_le (by omega)
   rw [ht]
   cases hq : isQ e.form.op
   ·rw [hq] at HQ
    have hl := hnl.2 hq
    by_cases h0 : e.form.parts.length = 0
    ·have hLn : L = [] := List.length_eq_zero_iff.1 (by omega)
     subst hLn
     have hRe : R = e.form := by rw [← hR]; exact deepJ_none hf h0 pos
     subst hRe
     have h0i : ((e.form.parts.length : Int) == 0) = true := by rw [h0]; rfl
     simp -implicitDefEqProofs only [go_sem, hlt, h0i]
     refine callF (HO) (by simp -implicitDefEqProofs only [go_sem]) ?_
     simp -implicitDefEqProofs only [go_sem]
    ·have hRe : R = mkF e.form.op L := by rw [← hR]; exact deepJ_some hf h0 hq L pos
     subst hRe
     have h0i : ((e.form.parts.length : Int) == 0) = false := by rw [beq_eq_false_iff_ne]; omega
     simp -implicitDefEqProofs only [go_sem, hlt, h0i]
     refine callF (HQ) (by simp -implicitDefEqProofs only [go_sem]) ?_
     simp -implicitDefEqProofs only [go_sem]
     simp -implicitDefEqProofs only [go_sem, mkF_op, mkF_name, mkF_args, mkF_var, mkF_parts, List.map_nil]
   ·rw [hq] at HQ
    obtain ⟨q, hp, hqf⟩ := q_parts hq hf
    have h0i : ((e.form.parts.length : Int) == 0) = false := by rw [hp]; rfl
    cases hs : strongE e.form pos
    ·rw [hs] at HSt
     have hs' := hs
     rw [strongE_q hq] at hs'
     cases h9 : e.form.op == 9
     ·have HJ := l18Joined_c L 5 1 hLW
      have hJ : joinF 5 L (mkF 1 []) = R := by rw [← hR]; unfold deepJ; rw [hq, hs', h9]; rfl
      rw [hJ] at HJ
      simp only [fmD, fmC_eq R] at HJ
      simp -implicitDefEqProofs only [go_sem, hlt, h0i]
      refine callF (HQ) (by simp -implicitDefEqProofs only [go_sem]) ?_
      simp -implicitDefEqProofs only [go_sem]
      refine callF (HSt) (by simp -implicitDefEqProofs only [go_sem, h9]) ?_
      simp -implicitDefEqProofs only [go_sem, h9]
      refine callF (HJ) (by simp -implicitDefEqProofs only [go_sem]) ?_
      simp -implicitDefEqProofs only [go_sem]
     ·have HJ := l18Joined_c L 6 2 hLW
      have hJ : joinF 6 L (mkF 2 []) = R := by rw [← hR]; unfold deepJ; rw [hq, hs', h9]; rfl
      rw [hJ] at HJ
      simp only [fmD, fmC_eq R] at HJ
      simp -implicitDefEqProofs only [go_sem, hlt, h0i]
      refine callF (HQ) (by simp -implicitDefEqProofs only [go_sem]) ?_
      simp -implicitDefEqProofs only [go_sem]
      refine callF (HSt) (by simp -implicitDefEqProofs only [go_sem, h9]) ?_
      simp -implicitDefEqProofs only [go_sem, h9]
      refine callF (HJ) (by simp -implicitDefEqProofs only [go_sem]) ?_
      simp -implicitDefEqProofs only [go_sem]
    ·have h1 := strong_one hn hs
     obtain ⟨x, hx⟩ := List.length_eq_one_iff.1 (hLl.trans h1.2)
     subst hx
     have hs' := hs
     rw [strongE_q hq] at hs'
     have hJ : x = R := by rw [← hR]; unfold deepJ; rw [hq, hs']; rfl
     subst hJ
     rw [hs] at HSt
     simp -implicitDefEqProofs only [go_sem, hlt, h0i, List.map_cons, List.map_nil, fmC_eq x]
     refine callF (HQ) (by simp -implicitDefEqProofs only [go_sem]) ?_
     simp -implicitDefEqProofs only [go_sem]
     refine callFPe 320 (HSt) (by simp -implicitDefEqProofs only [go_sem]) (by simp -implicitDefEqProofs only [go_sem]) fun vs => ?_
     simp -implicitDefEqProofs only [go_sem]
     refine ⟨[(320, 0, 2), (320, 0, 4)], ?_⟩
     simp -implicitDefEqProofs only [go_sem]
theorem l17Deep_c : ∀ e : Ex, e.wt ≤ 1048576 → e.form.forms = true → ∀ pos, nodeS e pos = true → FC Tryz.prog 84 [exD e, bD pos] [fmD (deepF e pos)] :=
 ex_ind fun f ts ps ih he hf pos hn => l17Deep_of (.mk f ts ps) he hf pos hn fun p hp hpf pos hn => ih p hp (Nat.le_trans (eparts_wt (a := .mk f ts ps) hp) he) hpf pos hn
noncomputable def deepR (e : Ex) (pos : Bool) : Fm := if (specOk e pos && (deepF e pos).good) = true then deepF e pos else mkF 0 []
theorem specOk_node {e : Ex} {pos : Bool} (h : specOk e pos = true) : e.form.good = true ∧ nodeS e pos = true ∧ e.nodes ≤ 60 := by
 unfold specOk at h
 simp only [Bool.and_eq_true, decide_eq_true_eq] at h
 exact ⟨h.1.1.1, h.1.2, h.1.1.2⟩
theorem deepR_wt (e : Ex) (pos : Bool) : (deepR e pos).wt ≤ e.wt := by
 unfold deepR
 split
 ·rename_i h
  rw [Bool.and_eq_true] at h
  exact (deepF_wt e pos (specOk_node h.1).2.1).1
 ·rw [mkFn_wt]; omega
set_option maxHeartbeats 1000000 in
theorem implDeepFormula_c (e : Ex) (he : e.wt ≤ 1048576) (pos : Bool) : FC Tryz.prog 34 [exD e, bD pos] [fmD (deepR e pos), bD (specOk e pos && (deepF e pos).good)] := by
 have HI := isValidExpansion_c e he pos
 rw [exp_spec] at HI
 unfold deepR
 cases h : specOk e pos
 ·rw [h] at HI
  rw [Bool.false_and, if_neg (by simp)]
  simp only [exD, exC_eq, fmD, fmC_mkF, List.map_nil] at HI ⊢
  refine FC_of Tryz.call34 Tryz.func34 rfl (by kernel_rfl) (by simp only [rd, List.map_cons, List.map_nil, List.length_cons, List.length_nil, Tryz.ntmps34]; omega) ?_
  simp -implicitDefEqProofs only [go_sem, Tryz.results34]
  refine callF (HI) (by simp -implicitDefEqProofs only [go_sem]) ?_
  simp -implicitDefEqProofs only [go_sem]
 ·rw [h] at HI
  obtain ⟨hg, hn, -⟩ := specOk_node h
  have HD := deep_c e he pos hn
  have hw := (deepF_wt e pos hn).1
  generalize deepF e pos = R at HD hw ⊢
  have HF := ifFormula_c R (by omega)
  rw [Bool.true_and]
  generalize R.good = G at HF ⊢
  generalize (if G = true then R else mkF 0 []) = C at HF ⊢
  simp only [exD, exC_eq, fmD, fmC_eq R, fmC_eq C] at HI HD HF ⊢
  refine FC_ofN Tryz.call34 Tryz.func34 rfl (by kernel_rfl) (by simp only [rd, List.map_cons, List.map_nil, List.length_cons, List.length_nil, Tryz.ntmps34]; omega) ?_
  simp -implicitDefEqProofs only [go_sem, Tryz.results34]
  refine callF (HI) (by simp -implicitDefEqProofs only [go_sem]) ?_
  simp -implicitDefEqProofs only [go_sem]
  refine callF (HD) (by simp -implicitDefEqProofs only [go_sem]) ?_
  simp -implicitDefEqProofs only [go_sem]
  refine callGL [4, 5] [13] [] (HF) (by simp -implicitDefEqProofs only [go_sem]) (by simp -implicitDefEqProofs only [go_sem]) (by simp -implicitDefEqProofs only [go_sem]) (by simp -implicitDefEqProofs only [go_sem]) ?_
  simp -implicitDefEqProofs only [go_sem]
set_option maxHeartbeats 1000000 in
theorem specDeepFormula_c (e : Ex) (he : e.wt ≤ 1048576) (pos : Bool) : FC Tryz.prog 32 [exD e, bD pos] [fmD (deepR e pos), bD (specOk e pos && (deepF e pos).good)] := by
 have HI := l17Good_c e he pos
 unfold deepR
 cases h : specOk e pos
 ·rw [h] at HI
  rw [Bool.false_and, if_neg (by simp)]
  simp only [exD, exC_eq, fmD, fmC_mkF, List.map_nil] at HI ⊢
  refine FC_of Tryz.call32 Tryz.func32 rfl (by kernel_rfl) (by simp only [rd, List.map_cons, List.map_nil, List.length_cons, List.length_nil, Tryz.ntmps32]; omega) ?_
  simp -implicitDefEqProofs only [go_sem, Tryz.results32]
  refine callF (HI) (by simp -implicitDefEqProofs only [go_sem]) ?_
  simp -implicitDefEqProofs only [go_sem]
 ·rw [h] at HI
  obtain ⟨hg, hn, -⟩ := specOk_node h
  have HD := l17Deep_c e he (gforms' hg) pos hn
  have hw := (deepF_wt e pos hn).1
  generalize deepF e pos = R at HD hw ⊢
  have HG := l8Good_c R (by omega)
  rw [Bool.true_and]
  cases hG : R.good
  ·rw [hG] at HG
   rw [if_neg (by simp)]
   simp only [exD, exC_eq, fmD, fmC_mkF, List.map_nil, fmC_eq R] at HI HD HG ⊢
   refine FC_of Tryz.call32 Tryz.func32 rfl (by kernel_rfl) (by simp only [rd, List.map_cons, List.map_nil, List.length_cons, List.length_nil, Tryz.ntmps32]; omega) ?_
   simp -implicitDefEqProofs only [go_sem, Tryz.results32]
   refine callF (HI) (by simp -implicitDefEqProofs only [go_sem]) ?_
   simp -implicitDefEqProofs only [go_sem]
   refine callF (HD) (by simp -implicitDefEqProofs only [go_sem]) ?_
   simp -implicitDefEqProofs only [go_sem]
   refine callF (HG) (by simp -implicitDefEqProofs only [go_sem]) ?_
   simp -implicitDefEqProofs only [go_sem]
  ·rw [hG] at HG
   rw [if_pos rfl]
   simp only [exD, exC_eq, fmD, fmC_eq R] at HI HD HG ⊢
   refine FC_of Tryz.call32 Tryz.func32 rfl (by kernel_rfl) (by simp only [rd, List.map_cons, List.map_nil, List.length_cons, List.length_nil, Tryz.ntmps32]; omega) ?_
   simp -implicitDefEqProofs only [go_sem, Tryz.results32]
   refine callF (HI) (by simp -implicitDefEqProofs only [go_sem]) ?_
   simp -implicitDefEqProofs only [go_sem]
   refine callF (HD) (by simp -implicitDefEqProofs only [go_sem]) ?_
   simp -implicitDefEqProofs only [go_sem]
   refine callF (HG) (by simp -implicitDefEqProofs only [go_sem]) ?_
   simp -implicitDefEqProofs only [go_sem]
end Go.Proofs.YtbccfiillleimaaGreat
namespace Go.Proofs.YtbccfiillleimaaGreat
set_option linter.unusedSimpArgs false
set_option linter.unusedVariables false
set_option linter.unusedSectionVars false
set_option maxRecDepth 4000
open Go.RowKit
mutual
def mk1Exs : Ex → Nat → Ex × Nat
 | .mk (.mk o0 (.mk n0 s0) v0 p0) t0 e0, k => (.mk (.mk ((k : Nat) : Int) (.mk (mtx (k + 1)) (mkTms s0 ((k + 1) + 1)).1) (mtx (mkTms s0 ((k + 1) + 1)).2) (mkFms p0 ((mkTms s0 ((k + 1) + 1)).2 + 1)).1) (mkTms t0 (mkFms p0 ((mkTms s0 ((k + 1) + 1)).2 + 1)).2).1 (mkExs e0 (mkTms t0 (mkFms p0 ((mkTms s0 ((k + 1) + 1)).2 + 1)).2).2).1, (mkExs e0 (mkTms t0 (mkFms p0 ((mkTms s0 ((k + 1) + 1)).2 + 1)).2).2).2)
def mkExs : List Ex → Nat → List Ex × Nat
 | [], k => ([], k)
 | a :: xs, k => ((mk1Exs a k).1 :: (mkExs xs (mk1Exs a k).2).1, (mkExs xs (mk1Exs a k).2).2)
end
mutual
def ct1Exs : Ex → Nat
 | .mk (.mk o0 (.mk n0 s0) v0 p0) t0 e0 => 1 + 1 + 1 + ctTms s0 + 1 + ctFms p0 + ctTms t0 + ctExs e0
def ctExs : List Ex → Nat
 | [] => 0
 | a :: xs => ct1Exs a + ctExs xs
end
mutual
theorem mk1Exs_ct : ∀ (a : Ex) (k : Nat), k ≤ (mk1Exs a k).2 ∧ (mk1Exs a k).2 ≤ k + ct1Exs a
 | .mk (.mk o0 (.mk n0 s0) v0 p0) t0 e0, k => by have h_s0 := mkTms_ct s0 ((k + 1) + 1); have h_p0 := mkFms_ct p0 ((mkTms s0 ((k + 1) + 1)).2 + 1); have h_t0 := mkTms_ct t0 (mkFms p0 ((mkTms s0 ((k + 1) + 1)).2 + 1)).2; have h_e0 := mkExs_ct e0 (mkTms t0 (mkFms p0 ((mkTms s0 ((k + 1) + 1)).2 + 1)).2).2; simp only [mk1Exs, ct1Exs]; omega
theorem mkExs_ct : ∀ (xs : List Ex) (k : Nat), k ≤ (mkExs xs k).2 ∧ (mkExs xs k).2 ≤ k + ctExs xs
 | [], k => ⟨Nat.le_refl _, Nat.le_refl _⟩
 | a :: xs, k => by have h1 := mk1Exs_ct a k; have h2 := mkExs_ct xs (mk1Exs a k).2; simp only [mkExs, ctExs]; omega
end
theorem ctExs_len : ∀ xs : List Ex, xs.length ≤ ctExs xs
  | [] => Nat.le_refl _
  | a :: xs => by have := ctExs_len xs; have : 1 ≤ ct1Exs a := by obtain ⟨⟨o0, ⟨n0, s0⟩, v0, p0⟩, t0, e0⟩ := a; simp only [ct1Exs]; omega
                  simp only [List.length_cons, ctExs]; omega
theorem markExpansionS_of (xs : List Ex) (H : ∀ a ∈ xs, ∀ k : Nat, 0 < k → k + ctExs a.parts ≤ 4611686018427387904 → IC Tryz.prog 90 [] (.one (exS a.parts)) [iD k] (.one (exS (mkExs a.parts k).1)) [iD (mkExs a.parts k).2]) :
  ∀ k : Nat, 0 < k → k + ctExs xs ≤ 4611686018427387904 → IC Tryz.prog 90 [] (.one (exS xs)) [iD k] (.one (exS (mkExs xs k).1)) [iD (mkExs xs k).2] := by
 intro k h0 hk
 refine IC_ofP Tryz.call90 Tryz.func90 rfl (by kernel_rfl) (by simp only [argsI, rd, List.map_cons, List.map_nil, List.nil_append, List.length_cons, List.length_nil, Tryz.ntmps90]; omega) (by simp only [Tryz.ntmps90]; omega) (fun vs => ?_)
 simp -implicitDefEqProofs only [go_sem, Tryz.results90, initP, initI, argsI, PI]
 refine loop_rule (fun (x : List Ex × List Ex × Nat) => hd [(0, .one (.ow 0 0)), (1000000, .one (.ow 0 0)), (1, vI x.2.2), (5, vI x.1.length)] [] [(0, ⟨true, 7, x.1.map exC ++ pinRs vs x.1.length (x.2.1.map exC), 0, true⟩)])
  (fun x => (mkExs xs k).1 = x.1 ++ (mkExs x.2.1 x.2.2).1 ∧ (mkExs xs k).2 = (mkExs x.2.1 x.2.2).2 ∧ 0 < x.2.2 ∧ x.2.2 + ctExs x.2.1 ≤ 4611686018427387904 ∧ x.1.length + x.2.1.length = xs.length ∧ ∀ a ∈ x.2.1, a ∈ xs) (fun x => x.2.1.length) ([], xs, k) (weak_hd ?_) ?_ ?_
 ·simp -implicitDefEqProofs only [go_sem]
 ·exact ⟨rfl, rfl, h0, hk, by simp, fun _ h => h⟩
 ·intro ⟨dn, rest, kk⟩ ⟨h1, h2, h3, h4, h6, h5⟩
  simp only at h1 h2 h3 h4 h5 h6
  cases rest with
  | nil =>
   simp only [mkExs, List.append_nil] at h1 h2
   simp -implicitDefEqProofs only [go_sem, h1, h2]
  | cons a rest =>
   obtain ⟨⟨o0, ⟨n0, s0⟩, v0, p0⟩, t0, e0⟩ := a
   simp only [mkExs, mk1Exs, ctExs, ct1Exs] at h1 h2 h4
   have hc_s0 := mkTms_ct s0 ((kk + 1) + 1)
   have hc_p0 := mkFms_ct p0 ((mkTms s0 ((kk + 1) + 1)).2 + 1)
   have hc_t0 := mkTms_ct t0 (mkFms p0 ((mkTms s0 ((kk + 1) + 1)).2 + 1)).2
   have hc_e0 := mkExs_ct e0 (mkTms t0 (mkFms p0 ((mkTms s0 ((kk + 1) + 1)).2 + 1)).2).2
   have w0 : IntKind.i64.wrap (((kk : Nat) : Int) + 1) = ((kk + 1 : Nat) : Int) := wrap_s (by omega)
   have w1 : IntKind.i64.wrap ((((kk + 1) : Nat) : Int) + 1) = (((kk + 1) + 1 : Nat) : Int) := wrap_s (by omega)
   have w2 : IntKind.i64.wrap ((((mkTms s0 ((kk + 1) + 1)).2 : Nat) : Int) + 1) = (((mkTms s0 ((kk + 1) + 1)).2 + 1 : Nat) : Int) := wrap_s (by omega)
   have hln := ctExs_len xs
   rw [List.length_cons] at h6
   have wl : IntKind.i64.wrap ((dn.length : Int) + 1) = ((dn.length + 1 : Nat) : Int) := wrap_s (by omega)
   simp -implicitDefEqProofs only [go_sem, exC_eq (.mk _ _ _), Ex.form, Ex.terms, Ex.parts, Fm.op, Fm.atom, Fm.var, Fm.parts, Tm.name, Tm.args]
   refine storeD (by simp -implicitDefEqProofs only [go_sem, implies_true, w0, w1, w2]) ?_
   simp -implicitDefEqProofs only [go_sem, implies_true, w0, w1, w2]
   refine callF (markText_c (kk + 1) (by omega) (by omega)) (by simp -implicitDefEqProofs only [go_sem, w0, w1, w2]) ?_
   simp -implicitDefEqProofs only [go_sem, w0, w1, w2]
   refine storeD (by simp -implicitDefEqProofs only [go_sem, implies_true, w0, w1, w2]) ?_
   simp -implicitDefEqProofs only [go_sem, implies_true, w0, w1, w2]
   refine callN (l := [(0, .one (.ow 0 0)), (1000000, .one (.ow 0 0)), (5, vI dn.length), (36, .one (.cv (vs dn.length 2))), (37, vI (((kk + 1) + 1) : Nat))]) (bl := []) (el := [(0, ⟨true, 7, dn.map exC ++ [.int .i64 ((kk : Nat) : Int), .str (mtx (kk + 1)), .pin (vs dn.length 2) (tmS s0), .str v0, .pin (vs dn.length 4) (fmS p0), .pin (vs dn.length 5) (tmS t0), .pin (vs dn.length 6) (exS e0)] :: pinRs vs (dn.length + 1) (rest.map exC), 0, true⟩)]) 0 dn.length 2 (markTermS_c s0 ((kk + 1) + 1) (by omega) (by omega)) (by simp -implicitDefEqProofs only [go_sem, w0, w1, w2, tmS]) rfl rfl rfl (by simp -implicitDefEqProofs only [go_sem, tmS, Ex.form, Ex.terms, Ex.parts, Fm.op, Fm.atom, Fm.var, Fm.parts, Tm.name, Tm.args]) rfl ?_
   simp -implicitDefEqProofs only [go_sem, w0, w1, w2, Ex.form, Ex.terms, Ex.parts, Fm.op, Fm.atom, Fm.var, Fm.parts, Tm.name, Tm.args]
   refine callF (markText_c (mkTms s0 ((kk + 1) + 1)).2 (by omega) (by omega)) (by simp -implicitDefEqProofs only [go_sem, w0, w1, w2]) ?_
   simp -implicitDefEqProofs only [go_sem, w0, w1, w2]
   refine storeD (by simp -implicitDefEqProofs only [go_sem, implies_true, w0, w1, w2]) ?_
   simp -implicitDefEqProofs only [go_sem, implies_true, w0, w1, w2]
   refine callN (l := [(0, .one (.ow 0 0)), (1000000, .one (.ow 0 0)), (5, vI dn.length), (53, .one (.cv (vs dn.length 4))), (54, vI (((mkTms s0 ((kk + 1) + 1)).2 + 1) : Nat))]) (bl := []) (el := [(0, ⟨true, 7, dn.map exC ++ [.int .i64 ((kk : Nat) : Int), .str (mtx (kk + 1)), tmS (mkTms s0 ((kk + 1) + 1)).1, .str (mtx (mkTms s0 ((kk + 1) + 1)).2), .pin (vs dn.length 4) (fmS p0), .pin (vs dn.length 5) (tmS t0), .pin (vs dn.length 6) (exS e0)] :: pinRs vs (dn.length + 1) (rest.map exC), 0, true⟩)]) 0 dn.length 4 (markFormulaS_c p0 ((mkTms s0 ((kk + 1) + 1)).2 + 1) (by omega) (by omega)) (by simp -implicitDefEqProofs only [go_sem, w0, w1, w2, fmS]) rfl rfl rfl (by simp -implicitDefEqProofs only [go_sem, fmS, Ex.form, Ex.terms, Ex.parts, Fm.op, Fm.atom, Fm.var, Fm.parts, Tm.name, Tm.args]) rfl ?_
   simp -implicitDefEqProofs only [go_sem, w0, w1, w2, Ex.form, Ex.terms, Ex.parts, Fm.op, Fm.atom, Fm.var, Fm.parts, Tm.name, Tm.args]
   refine callN (l := [(0, .one (.ow 0 0)), (1000000, .one (.ow 0 0)), (5, vI dn.length), (60, .one (.cv (vs dn.length 5))), (61, vI ((mkFms p0 ((mkTms s0 ((kk + 1) + 1)).2 + 1)).2 : Nat))]) (bl := []) (el := [(0, ⟨true, 7, dn.map exC ++ [.int .i64 ((kk : Nat) : Int), .str (mtx (kk + 1)), tmS (mkTms s0 ((kk + 1) + 1)).1, .str (mtx (mkTms s0 ((kk + 1) + 1)).2), fmS (mkFms p0 ((mkTms s0 ((kk + 1) + 1)).2 + 1)).1, .pin (vs dn.length 5) (tmS t0), .pin (vs dn.length 6) (exS e0)] :: pinRs vs (dn.length + 1) (rest.map exC), 0, true⟩)]) 0 dn.length 5 (markTermS_c t0 (mkFms p0 ((mkTms s0 ((kk + 1) + 1)).2 + 1)).2 (by omega) (by omega)) (by simp -implicitDefEqProofs only [go_sem, w0, w1, w2, tmS]) rfl rfl rfl (by simp -implicitDefEqProofs only [go_sem, tmS, Ex.form, Ex.terms, Ex.parts, Fm.op, Fm.atom, Fm.var, Fm.parts, Tm.name, Tm.args]) rfl ?_
   simp -implicitDefEqProofs only [go_sem, w0, w1, w2, Ex.form, Ex.terms, Ex.parts, Fm.op, Fm.atom, Fm.var, Fm.parts, Tm.name, Tm.args]
   refine callN (l := [(0, .one (.ow 0 0)), (1000000, .one (.ow 0 0)), (5, vI dn.length), (67, .one (.cv (vs dn.length 6))), (68, vI ((mkTms t0 (mkFms p0 ((mkTms s0 ((kk + 1) + 1)).2 + 1)).2).2 : Nat))]) (bl := []) (el := [(0, ⟨true, 7, dn.map exC ++ [.int .i64 ((kk : Nat) : Int), .str (mtx (kk + 1)), tmS (mkTms s0 ((kk + 1) + 1)).1, .str (mtx (mkTms s0 ((kk + 1) + 1)).2), fmS (mkFms p0 ((mkTms s0 ((kk + 1) + 1)).2 + 1)).1, tmS (mkTms t0 (mkFms p0 ((mkTms s0 ((kk + 1) + 1)).2 + 1)).2).1, .pin (vs dn.length 6) (exS e0)] :: pinRs vs (dn.length + 1) (rest.map exC), 0, true⟩)]) 0 dn.length 6 (H (.mk (.mk o0 (.mk n0 s0) v0 p0) t0 e0) (h5 _ (by simp)) (mkTms t0 (mkFms p0 ((mkTms s0 ((kk + 1) + 1)).2 + 1)).2).2 (by omega) (by show (mkTms t0 (mkFms p0 ((mkTms s0 ((kk + 1) + 1)).2 + 1)).2).2 + ctExs e0 ≤ _; omega)) (by simp -implicitDefEqProofs only [go_sem, w0, w1, w2, exS]) rfl rfl rfl (by simp -implicitDefEqProofs only [go_sem, exS, Ex.form, Ex.terms, Ex.parts, Fm.op, Fm.atom, Fm.var, Fm.parts, Tm.name, Tm.args]) rfl ?_
   simp -implicitDefEqProofs only [go_sem, w0, w1, w2, Ex.form, Ex.terms, Ex.parts, Fm.op, Fm.atom, Fm.var, Fm.parts, Tm.name, Tm.args]
   refine ⟨(dn ++ [.mk (.mk ((kk : Nat) : Int) (.mk (mtx (kk + 1)) (mkTms s0 ((kk + 1) + 1)).1) (mtx (mkTms s0 ((kk + 1) + 1)).2) (mkFms p0 ((mkTms s0 ((kk + 1) + 1)).2 + 1)).1) (mkTms t0 (mkFms p0 ((mkTms s0 ((kk + 1) + 1)).2 + 1)).2).1 (mkExs e0 (mkTms t0 (mkFms p0 ((mkTms s0 ((kk + 1) + 1)).2 + 1)).2).2).1], rest, (mkExs e0 (mkTms t0 (mkFms p0 ((mkTms s0 ((kk + 1) + 1)).2 + 1)).2).2).2), ⟨by simpa using h1, h2, by show 0 < (mkExs e0 (mkTms t0 (mkFms p0 ((mkTms s0 ((kk + 1) + 1)).2 + 1)).2).2).2; omega, by show (mkExs e0 (mkTms t0 (mkFms p0 ((mkTms s0 ((kk + 1) + 1)).2 + 1)).2).2).2 + ctExs rest ≤ _; omega, by simp; omega, fun b hb => h5 b (by simp [hb])⟩, by simp, weak_hd ?_⟩
   simp -implicitDefEqProofs only [go_sem, wl, exC_eq (.mk _ _ _), Ex.form, Ex.terms, Ex.parts, Fm.op, Fm.atom, Fm.var, Fm.parts, Tm.name, Tm.args, List.map_append, List.append_assoc]
theorem markExpansionS_c (xs : List Ex) (k : Nat) (h0 : 0 < k) (hk : k + ctExs xs ≤ 4611686018427387904) : IC Tryz.prog 90 [] (.one (exS xs)) [iD k] (.one (exS (mkExs xs k).1)) [iD (mkExs xs k).2] :=
 markExpansionS_of xs (fun a _ => ex_ind (P := fun a => ∀ k : Nat, 0 < k → k + ctExs a.parts ≤ 4611686018427387904 → IC Tryz.prog 90 [] (.one (exS a.parts)) [iD k] (.one (exS (mkExs a.parts k).1)) [iD (mkExs a.parts k).2]) (fun _ _ ps ih => markExpansionS_of ps ih) a) k h0 hk
end Go.Proofs.YtbccfiillleimaaGreat
namespace Go.Proofs.YtbccfiillleimaaGreat
set_option linter.unusedSimpArgs false
set_option linter.unusedVariables false
set_option linter.unusedSectionVars false
set_option maxRecDepth 4000
open Go.RowKit
def mkTExpansion : Ex → Nat → Ex × Nat
 | .mk (.mk o0 (.mk n0 s0) v0 p0) t0 e0, k => (.mk (.mk o0 (.mk n0 (mkTms s0 k).1) v0 (mkFms p0 (mkTms s0 k).2).1) (mkTms t0 (mkFms p0 (mkTms s0 k).2).2).1 (mkExs e0 (mkTms t0 (mkFms p0 (mkTms s0 k).2).2).2).1, (mkExs e0 (mkTms t0 (mkFms p0 (mkTms s0 k).2).2).2).2)
def ctTExpansion : Ex → Nat
 | .mk (.mk _ (.mk _ s0) _ p0) t0 e0 => ctTms s0 + ctFms p0 + ctTms t0 + ctExs e0
theorem mkTExpansion_ct : ∀ (a : Ex) (k : Nat), k ≤ (mkTExpansion a k).2 ∧ (mkTExpansion a k).2 ≤ k + ctTExpansion a
 | .mk (.mk o0 (.mk n0 s0) v0 p0) t0 e0, k => by
  have h1 := mkTms_ct s0 k
  have h2 := mkFms_ct p0 (mkTms s0 k).2
  have h3 := mkTms_ct t0 (mkFms p0 (mkTms s0 k).2).2
  have h4 := mkExs_ct e0 (mkTms t0 (mkFms p0 (mkTms s0 k).2).2).2
  simp only [mkTExpansion, ctTExpansion]; omega
mutual
theorem ct1Exs_wt : ∀ a : Ex, ct1Exs a ≤ 6 + 6 * a.wt
 | .mk (.mk o (.mk n s) v p) t e => by
  have h1 := ctTms_wt s
  have h2 := ctFms_wt p
  have h3 := ctTms_wt t
  have h4 := ctExs_wt e
  rw [Ex.wt_eq, ct1Exs]; unfold fmsW at h2; unfold exsW at h4
  simp only [Ex.form, Ex.terms, Ex.parts]
  rw [Fm.wt_eq]
  simp only [Fm.atom, Fm.var, Fm.parts]
  rw [Tm.wt_eq]
  have e1 : tmsW s = s.length + (s.map Tm.wt).sum := rfl
  simp only [Tm.name, Tm.args]; omega
theorem ctExs_wt : ∀ xs : List Ex, ctExs xs ≤ 6 * exsW xs
 | [] => by simp [ctExs]
 | a :: xs => by
  have h1 := ct1Exs_wt a
  have h2 := ctExs_wt xs
  unfold exsW at h2 ⊢
  rw [ctExs, List.length_cons, List.map_cons, List.sum_cons]; omega
end
theorem ctTExpansion_wt (a : Ex) : ctTExpansion a ≤ 6 * a.wt := by
 obtain ⟨⟨o, ⟨n, s⟩, v, p⟩, t, e⟩ := a
 have h1 := ctTms_wt s
 have h2 := ctFms_wt p
 have h3 := ctTms_wt t
 have h4 := ctExs_wt e
 rw [Ex.wt_eq, ctTExpansion]; unfold fmsW at h2; unfold exsW at h4
 simp only [Ex.form, Ex.terms, Ex.parts]
 rw [Fm.wt_eq]
 simp only [Fm.atom, Fm.var, Fm.parts]
 rw [Tm.wt_eq]
 have e1 : tmsW s = s.length + (s.map Tm.wt).sum := rfl
 simp only [Tm.name, Tm.args]; omega
theorem mkTExpansion_cells (e : Ex) (k : Nat) : exC (mkTExpansion e k).1 = [.int .i64 e.form.op, .str e.form.atom.name, .sl 2 ((mkTExpansion e k).1.form.atom.args.map tmC), .str e.form.var, .sl 5 ((mkTExpansion e k).1.form.parts.map fmC), .sl 2 ((mkTExpansion e k).1.terms.map tmC), .sl 7 ((mkTExpansion e k).1.parts.map exC)] := by
 obtain ⟨⟨o, ⟨n, s⟩, v, p⟩, t, ps⟩ := e
 rw [exC_eq]; rfl
theorem markExpansion_c (a : Ex) (k : Nat) (h0 : 0 < k) (hk : k + ctTExpansion a ≤ 4611686018427387904) : IC Tryz.prog 36 [] (.agg (exC a)) [iD k] (.agg (exC (mkTExpansion a k).1)) [iD (mkTExpansion a k).2] := by
 obtain ⟨⟨o0, ⟨n0, s0⟩, v0, p0⟩, t0, e0⟩ := a
 simp only [ctTExpansion] at hk
 have hc0 := mkTms_ct s0 k
 have hc1 := mkFms_ct p0 (mkTms s0 k).2
 have hc2 := mkTms_ct t0 (mkFms p0 (mkTms s0 k).2).2
 have H1 := markFormula_c (.mk o0 (.mk n0 s0) v0 p0) k h0 (by simp only [ctTFormula, ctTTerm]; omega)
 have H2 := markTermS_c t0 (mkFms p0 (mkTms s0 k).2).2 (by omega) (by omega)
 have H3 := markExpansionS_c e0 (mkTms t0 (mkFms p0 (mkTms s0 k).2).2).2 (by omega) (by omega)
 simp only [fmC_eq (.mk _ _ _ _), exC_eq (.mk _ _ _), tmC_eq (.mk _ _), Ex.form, Ex.terms, Ex.parts, Fm.op, Fm.atom, Fm.var, Fm.parts, Tm.name, Tm.args, mkTExpansion, mkTFormula, mkTTerm] at H1 H2 H3 ⊢
 generalize (mkTms s0 k).1 = s1 at H1 ⊢
 generalize (mkFms p0 (mkTms s0 k).2).1 = p1 at H1 ⊢
 generalize (mkFms p0 (mkTms s0 k).2).2 = k2 at H1 H2 H3 ⊢
 generalize (mkTms t0 k2).1 = t1 at H2 ⊢
 generalize (mkTms t0 k2).2 = k3 at H2 H3 ⊢
 generalize (mkExs e0 k3).1 = e1 at H3 ⊢
 generalize (mkExs e0 k3).2 = k4 at H3 ⊢
 refine IC_of Tryz.call36 Tryz.func36 rfl (by kernel_rfl) (by simp only [argsI, rd, List.map_cons, List.map_nil, List.nil_append, List.length_cons, List.length_nil, Tryz.ntmps36]; omega) (by simp only [Tryz.ntmps36]; omega) ⟨⟨by simp, by simp [T.isPin]⟩, smallG_rd _⟩ trivial ?_
 simp -implicitDefEqProofs only [go_sem, Tryz.results36, initI, argsI, PI]
 refine callIdL [1000000, 2, 6, 7] (H1) (by simp -implicitDefEqProofs only [go_sem]) (by simp -implicitDefEqProofs only [go_sem]) (by simp -implicitDefEqProofs only [go_sem]) (by simp -implicitDefEqProofs only [go_sem]) (by simp -implicitDefEqProofs only [go_sem]) rfl ?_
 simp -implicitDefEqProofs only [go_sem]
 refine callIdL [1000000, 2, 10, 11] (H2) (by simp -implicitDefEqProofs only [go_sem]) (by simp -implicitDefEqProofs only [go_sem]) (by simp -implicitDefEqProofs only [go_sem]) (by simp -implicitDefEqProofs only [go_sem]) (by simp -implicitDefEqProofs only [go_sem]) rfl ?_
 simp -implicitDefEqProofs only [go_sem]
 refine callIdL [1000000, 2, 14, 15] (H3) (by simp -implicitDefEqProofs only [go_sem]) (by simp -implicitDefEqProofs only [go_sem]) (by simp -implicitDefEqProofs only [go_sem]) (by simp -implicitDefEqProofs only [go_sem]) (by simp -implicitDefEqProofs only [go_sem]) rfl ?_
 simp -implicitDefEqProofs only [go_sem]
end Go.Proofs.YtbccfiillleimaaGreat
namespace Go.Proofs.YtbccfiillleimaaGreat
set_option linter.unusedSimpArgs false
set_option linter.unusedVariables false
set_option linter.unusedSectionVars false
set_option maxRecDepth 4000
open Go.RowKit
set_option maxHeartbeats 4000000 in
theorem lawDeepFormula_c (e : Ex) (pos : Bool) : FC Tryz.prog 6 [exD e, bD pos] [bD true] := by
 have HZ := szExpansion_c e 1048576 (by omega) (by omega)
 simp only [exD, exC_eq e] at HZ ⊢
 refine FC_ofN Tryz.call6 Tryz.func6 rfl (by kernel_rfl) (by simp only [rd, List.map_cons, List.map_nil, List.length_cons, List.length_nil, Tryz.ntmps6]; omega) ?_
 simp -implicitDefEqProofs only [go_sem, Tryz.results6]
 refine callF (HZ) (by simp -implicitDefEqProofs only [go_sem]) ?_
 simp -implicitDefEqProofs only [go_sem]
 refine ⟨fun h => trivial, fun h => ?_⟩
 have hw : e.wt ≤ 1048576 := by have := (szR_pos (by simpa using h)).1; omega
 have hrw := Nat.le_trans (deepR_wt e pos) hw
 have HS := specDeepFormula_c e hw pos
 have HI := implDeepFormula_c e hw pos
 have HT := toExpansion_c e hw
 have HE := eqExpansion_c e e
 generalize (specOk e pos && (deepF e pos).good) = G at HS HI
 generalize deepR e pos = R at HS HI hrw
 have HF := eqFormula_c R R
 simp only [exD, exC_eq e, fmD, fmC_eq R] at HS HI HT HE HF
 refine callF (HT) (by simp -implicitDefEqProofs only [go_sem]) ?_
 simp -implicitDefEqProofs only [go_sem]
 refine callF (HS) (by simp -implicitDefEqProofs only [go_sem]) ?_
 simp -implicitDefEqProofs only [go_sem]
 refine callF (HT) (by simp -implicitDefEqProofs only [go_sem]) ?_
 simp -implicitDefEqProofs only [go_sem]
 refine callF (HI) (by simp -implicitDefEqProofs only [go_sem]) ?_
 simp -implicitDefEqProofs only [go_sem]
 refine callF (HF) (by simp -implicitDefEqProofs only [go_sem, same_self]) ?_
 simp -implicitDefEqProofs only [go_sem, same_self]
 refine ⟨fun h => by simp at h, fun _ => ?_⟩
 refine drawn (by kernel_rfl) ?_
 simp -implicitDefEqProofs only [go_sem]
 refine dCallF (HT) (by simp -implicitDefEqProofs only [go_sem]) ?_
 simp -implicitDefEqProofs only [go_sem]
 refine dCallF (HE) (by simp -implicitDefEqProofs only [go_sem]) ?_
 simp -implicitDefEqProofs only [go_sem]
 refine ⟨by kernel_rfl, fun h => ?_, fun _ => ?_⟩
 ·simp [same_self] at h
 have hc := ctTExpansion_wt e
 have hcR := ctTFormula_wt R
 have HM := markExpansion_c e 1 (by omega) (by omega)
 have HM2 := markFormula_c R 1 (by omega) (by omega)
 have HL := heldFormula_c R 1 (by omega) (by omega)
 have hm := (mkTExpansion_ct e 1).1
 have hmR := (mkTFormula_ct R 1).1
 rw [mkTExpansion_cells] at HM
 rw [mkTFormula_cells] at HM2 HL
 generalize (mkTExpansion e 1).2 = k1 at HM hm
 generalize (mkTFormula R 1).2 = k2 at HM2 HL hmR
 generalize (mkTExpansion e 1).1.form.atom.args = f2 at HM
 generalize (mkTExpansion e 1).1.form.parts = f5 at HM
 generalize (mkTExpansion e 1).1.terms = f6 at HM
 generalize (mkTExpansion e 1).1.parts = f7 at HM
 generalize (mkTFormula R 1).1.atom.args = r2 at HM2 HL
 generalize (mkTFormula R 1).1.parts = r5 at HM2 HL
 rw [exC_eq] at HM
 rw [fmC_eq] at HM2
 refine callIdL [1, 2, 4, 6, 7, 8, 9, 10, 50, 51] (HM) (by simp -implicitDefEqProofs only [go_sem]) (by simp -implicitDefEqProofs only [go_sem]) (by simp -implicitDefEqProofs only [go_sem]) (by simp -implicitDefEqProofs only [go_sem]) (by simp -implicitDefEqProofs only [go_sem]) rfl ?_
 simp -implicitDefEqProofs only [go_sem]
 refine callF (HF) (by simp -implicitDefEqProofs only [go_sem, same_self]) ?_
 simp -implicitDefEqProofs only [go_sem, same_self]
 refine ⟨fun h => by simp at h, fun _ => ?_⟩
 refine callIdL [1, 2, 4, 6, 7, 9, 10, 66, 67] (HM2) (by simp -implicitDefEqProofs only [go_sem]) (by simp -implicitDefEqProofs only [go_sem]) (by simp -implicitDefEqProofs only [go_sem]) (by simp -implicitDefEqProofs only [go_sem]) (by simp -implicitDefEqProofs only [go_sem]) rfl ?_
 simp -implicitDefEqProofs only [go_sem]
 refine callF (HL) (by simp -implicitDefEqProofs only [go_sem]) ?_
 simp -implicitDefEqProofs only [go_sem]
 refine ⟨fun h => by simp at h, fun _ => ?_⟩
 refine callF (HT) (by simp -implicitDefEqProofs only [go_sem]) ?_
 simp -implicitDefEqProofs only [go_sem]
 refine callF (HI) (by simp -implicitDefEqProofs only [go_sem]) ?_
 simp -implicitDefEqProofs only [go_sem]
 refine callF (HF) (by simp -implicitDefEqProofs only [go_sem, same_self]) ?_
 simp -implicitDefEqProofs only [go_sem, same_self]
 refine ⟨fun h => by simp at h, fun _ => ?_⟩
 refine callF (HL) (by simp -implicitDefEqProofs only [go_sem]) ?_
 simp -implicitDefEqProofs only [go_sem]
 refine ⟨fun h => by simp at h, fun _ => trivial⟩
end Go.Proofs.YtbccfiillleimaaGreat
namespace Go.Proofs.YtbccfiillleimaaGreat
set_option linter.unusedSimpArgs false
set_option linter.unusedVariables false
set_option linter.unusedSectionVars false
set_option maxRecDepth 4000
open Go.ChangeShapes Go.WideShapes Go.ChangeAt Go.RowKit
theorem rdeep_own : ownKnob Tryz.prog.godebug = none := by kernel_rfl
theorem rdeep_laidOut : laidOutB Tryz.prog = true := by kernel_rfl
def rdeepTypes (t : TypeId) : Bool := t == 3 || t == 9 || t == 24 || t == 22 || t == 27 || t == 25 || t == 56 || t == 54 || t == 4
theorem rdeepTypes_ok : ∀ t, rdeepTypes t = true → typeOk Tryz.prog rdeepTypes t = true := by
 intro t h
 simp only [rdeepTypes, Bool.or_eq_true, beq_iff_eq] at h
 rcases h with (((((((rfl | rfl) | rfl) | rfl) | rfl) | rfl) | rfl) | rfl) | rfl <;> kernel_rfl
set_option maxRecDepth 100000 in
theorem rdeep_lifted (os : Os) (started : os.Started) (H : Type) (enc : TypeId × Value → H) :
  ReturnsInHanded {} Tryz.checked os 6 .any (Rows.fnExactDeepFormulaSpec.pre6 enc Tryz.prog Tryz.f6 Rows.fnExactDeepFormulaRow.domain false)
   (Rows.fnExactDeepFormulaSpec.post enc Tryz.prog Tryz.f6 false true false false) := by
 refine returnsInHanded_of_change (C := Tryz.checked) rdeep_own started (by kernel_rfl) Tryz.func6
  (ChangeSpec.witness6 (enc := enc) (C := Tryz.checked) false ⟨#[], #[.agg #[.int .i64 0, .string .empty, .slice none 0 0, .string .empty, .slice none 0 0, .slice none 0 0, .slice none 0 0], .bool false], []⟩ 8 (by kernel_rfl) (by kernel_rfl) (by kernel_rfl) (by kernel_rfl)) ?_
 intro W base args ds gs before hval0 hW hcnd _
 have hval : ∀ (j : Nat) t v, Tryz.f6.params[j]? = some t → args[j]? = some v → Value.okWide Tryz.prog W .any base t v := hval0
 have hW' := hW
 obtain ⟨p, q, hA0, hV, rfl, hfz, hnd⟩ := hW
 have hA : DataW.TrodAll enc Tryz.prog W 0 (fun _ => true) true Tryz.f6.params.toList args.toList ds p := hA0
 rw [Tryz.params6] at hA hval
 obtain ⟨v0, vs0, d0, ds0, p0, q0, hargs, rfl, rfl, h0, r0⟩ := trodAll_cons hA
 obtain ⟨v1, vs1, d1, ds1, p1, q1, rfl, rfl, rfl, h1, r1⟩ := trodAll_cons r0
 obtain ⟨rfl, rfl, rfl⟩ := trodAll_nil r1
 obtain rfl : args = #[v0, v1] := by cases args; simp_all
 obtain ⟨rfl, rfl⟩ := trodVars_none hV
 have k0 := h0
 have k1 := h1
 have lt0 : ∀ x ∈ p0, x.block < W.heap.size := by obtain ⟨m, hm⟩ := k0; exact DataW.trod_lt m _ _ _ hm
 have lt1 : ∀ x ∈ p1, x.block < W.heap.size := by obtain ⟨m, hm⟩ := k1; exact DataW.trod_lt m _ _ _ hm
 obtain ⟨cs0, rfl, _⟩ := okWide_struct Tryz.underlying56 (hval 0 56 v0 rfl rfl)
 obtain ⟨s1, rfl⟩ := okWide_bool Tryz.underlying4 (hval 1 4 v1 rfl rfl)
 obtain ⟨s0, hs0⟩ : ∃ s : Ex, RepD W (· < W.heap.size) (exD s) (.agg cs0) := by
  obtain ⟨m, hm⟩ := h0
  obtain ⟨d, hr, hs⟩ := rep_of_trod rdeepTypes_ok m _ _ _ (by rfl) hm
  obtain ⟨s, e⟩ := sh_expansion _ hs
  exact ⟨s, cs0.toList, rfl, e ▸ hr⟩
 have hs1 : RepD W (· < W.heap.size) (bD s1) (.bool s1) := rfl
 have hs : RepDs W (· < W.heap.size) [exD s0, bD s1] [.agg cs0, .bool s1] := ⟨_, _, rfl, hs0, _, _, rfl, hs1, rfl⟩
 clear hA0 hval0
 refine ((lawDeepFormula_c s0 s1).use (vs := [.agg cs0, .bool s1]) hs).mono fun e W' ⟨us, fp, he, ho, _, _, bel⟩ => ?_
 obtain ⟨u, us', f1, f2, rfl, _, ⟨rfl, _⟩, hu⟩ := ho
 obtain ⟨rfl, _⟩ := hu
 subst he
 exact ⟨_, rfl, _, _, _, [], _, [], hW', trodAll_mk1 (shut_bool Tryz.underlying4 _),
  (trodAll_cons_mk (Below.trod rdeep_laidOut (by kernel_rfl) (of_decide_eq_true (by kernel_rfl)) k0 bel lt0) (trodAll_cons_mk (Below.trod rdeep_laidOut (by kernel_rfl) (of_decide_eq_true (by kernel_rfl)) k1 bel lt1) trodAll_mk0)), rfl, bel.frame _, fun h => by cases h⟩
theorem rdeep_h0 : (Rows.fnExactDeepFormulaRow.wf (OpenSpec.ofChange Rows.fnExactDeepFormulaSpec)) = true := by kernel_rfl
theorem rdeep_h1 : (laidOutB Tryz.checked.prog) = true := by kernel_rfl
theorem rdeep_h2 : (mapsRowed Tryz.checked.prog) = true := by kernel_rfl
theorem rdeep_h3 : (Tryz.f6.params.all (Tryz.checked.prog.readableRec ·)) = true := by kernel_rfl
theorem rdeep_h4 : (namedTie Tryz.checked.prog Rows.fnExactDeepFormulaRow.named Rows.fnExactDeepFormulaSpec.vars) = true := by kernel_rfl
theorem rdeep_h5 : ((Rows.fnExactDeepFormulaRow.stops == [])) = true := by kernel_rfl
theorem rdeep_h6 : ((Tryz.checked.prog.stops == [])) = true := by kernel_rfl
theorem rdeep_h7 : ((Rows.fnExactDeepFormulaRow.knobs == [])) = true := by kernel_rfl
theorem rdeep_h8 : ((Tryz.checked.prog.stopKnobs == [])) = true := by kernel_rfl
theorem rdeep_h9 : ((Rows.fnExactDeepFormulaRow.inPlace == Tryz.checked.prog.inPlace 6)) = true := by kernel_rfl
theorem rdeep_h10 : ((Rows.fnExactDeepFormulaRow.unfollowed == Tryz.checked.prog.unfollowed 6)) = true := by kernel_rfl
theorem rdeep_h11 : ((Rows.fnExactDeepFormulaRow.recurses == Tryz.checked.prog.recurses 6)) = true := by kernel_rfl
theorem rdeep_h12 : ((Rows.fnExactDeepFormulaRow.named == Tryz.checked.prog.varsNamed 6)) = true := by kernel_rfl
theorem rdeep_h13 : ((Rows.fnExactDeepFormulaRow.maps == (Tryz.f6.params.toList ++ Rows.fnExactDeepFormulaSpec.plain.varTypes Tryz.checked.prog).any (Tryz.checked.prog.mapsRec ·))) = true := by kernel_rfl
theorem rdeep_h14 : ((Rows.fnExactDeepFormulaRow.ifaces == (Tryz.f6.params.toList ++ Rows.fnExactDeepFormulaSpec.plain.varTypes Tryz.checked.prog).any (Tryz.checked.prog.ifacesRec ·))) = true := by kernel_rfl
theorem rdeep_h15 : ((Rows.fnExactDeepFormulaRow.mapsOut == Tryz.checked.prog.mapsAmong Tryz.f6.resultTypes.toList)) = true := by kernel_rfl
theorem rdeep_h16 : ((Rows.fnExactDeepFormulaRow.loops == (Tryz.f6.params.toList ++ Rows.fnExactDeepFormulaSpec.plain.varTypes Tryz.checked.prog).any (Tryz.checked.prog.loopsFrom ·))) = true := by kernel_rfl
theorem rdeep_h17 : ((Rows.fnExactDeepFormulaRow.wideKeys == (Tryz.f6.params.toList ++ Rows.fnExactDeepFormulaSpec.plain.varTypes Tryz.checked.prog ++ Tryz.f6.resultTypes.toList).any (Tryz.checked.prog.wideKeysFrom ·))) = true := by kernel_rfl
theorem rdeep_h18 : (Rows.fnExactDeepFormulaSpec.vars.all (Tryz.checked.prog.varReadable ·)) = true := by kernel_rfl
theorem rdeep_h19 : (Tryz.f6.resultTypes.all (fun t => Tryz.checked.prog.readableRec t && decide (t < Tryz.checked.prog.types.size))) = true := by kernel_rfl
theorem rdeep_h20 : ((Rows.fnExactDeepFormulaRow.ifacesOut == Tryz.f6.resultTypes.toList.any (Tryz.checked.prog.ifacesRec ·))) = true := by kernel_rfl
theorem rdeep_h21 : ((Rows.fnExactDeepFormulaRow.loopsOut == Tryz.f6.resultTypes.toList.any (Tryz.checked.prog.loopsFrom ·))) = true := by kernel_rfl
theorem rdeep_h22 : ((Rows.fnExactDeepFormulaRow.plainKeys == Tryz.checked.prog.plainKeys)) = true := by kernel_rfl
theorem rdeep_h23 : (Rows.fnExactDeepFormulaRow.shortTexts.isNone) = true := by kernel_rfl
theorem rdeep_h24 : (Tryz.checked.prog.stopsHeard) = true := by kernel_rfl
theorem rdeep_h25 : (Tryz.checked.prog.mayEnter) = true := by kernel_rfl
theorem rdeep_h26 : ((Rows.fnExactDeepFormulaRow.lifted == Tryz.checked.prog.liftsFinal)) = true := by kernel_rfl
theorem rdeep_h27 : ((Tryz.checked.prog.make == some Rows.fnExactDeepFormulaRow.make)) = true := by kernel_rfl
theorem rdeep_h28 : ((Rows.fnExactDeepFormulaRow.kinds == (if Rows.fnExactDeepFormulaRow.domain.isEmpty then [] else Tryz.f6.params.toList.map fun t => match Tryz.checked.prog.underlying t with | some (.int k) => some k | _ => none))) = true := by kernel_rfl
theorem rdeep_h29 : ((Rows.fnExactDeepFormulaRow.pinned == Rows.fnExactDeepFormulaRow.pinnedBy)) = true := by kernel_rfl
theorem rdeep_h30 : ((Rows.fnExactDeepFormulaRow.veiled == (Tryz.f6.params.toList ++ Rows.fnExactDeepFormulaSpec.plain.varTypes Tryz.checked.prog ++ Tryz.f6.resultTypes.toList).any (Tryz.checked.prog.veiledRec ·))) = true := by kernel_rfl
theorem rdeep_h31 : (Rows.fnExactDeepFormulaRow.veiledFits Tryz.checked.prog Tryz.f6.params.toList (Tryz.f6.params.toList ++ Rows.fnExactDeepFormulaSpec.plain.varTypes Tryz.checked.prog ++ Tryz.f6.resultTypes.toList)) = true := by kernel_rfl
theorem rdeep_closed : joinedFacts Tryz.checked.prog 6 Tryz.f6 Rows.fnExactDeepFormulaSpec Rows.fnExactDeepFormulaRow = true := by
 unfold joinedFacts
 simp only [Bool.and_eq_true]
 exact ⟨⟨⟨⟨⟨⟨⟨⟨⟨⟨⟨⟨⟨⟨⟨⟨⟨⟨⟨⟨⟨⟨⟨⟨⟨⟨⟨⟨⟨⟨⟨rdeep_h0, rdeep_h1⟩, rdeep_h2⟩, rdeep_h3⟩, rdeep_h4⟩, rdeep_h5⟩, rdeep_h6⟩, rdeep_h7⟩, rdeep_h8⟩, rdeep_h9⟩, rdeep_h10⟩, rdeep_h11⟩, rdeep_h12⟩, rdeep_h13⟩, rdeep_h14⟩, rdeep_h15⟩, rdeep_h16⟩, rdeep_h17⟩, rdeep_h18⟩, rdeep_h19⟩, rdeep_h20⟩, rdeep_h21⟩, rdeep_h22⟩, rdeep_h23⟩, rdeep_h24⟩, rdeep_h25⟩, rdeep_h26⟩, rdeep_h27⟩, rdeep_h28⟩, rdeep_h29⟩, rdeep_h30⟩, rdeep_h31⟩
theorem deepFormula_holds : Rows.FnExactDeepFormulaSaid :=
 OpenClaim.holds_of_wide 6 Tryz.f6 rfl rfl rfl rfl rfl rfl rfl ⟨rfl, rfl, rfl, rfl, rfl⟩ rfl rfl rfl rfl rfl (by kernel_rfl) Tryz.func6 rdeep_closed
  (of_decide_eq_true (by kernel_rfl)) (by unfold Func.isWrapper; rw [if_neg (of_decide_eq_false (by kernel_rfl))]; exact ⟨rfl, rfl⟩)
  (fun os started H enc _ => rdeep_lifted os started H enc)
#print axioms deepFormula_holds
end Go.Proofs.YtbccfiillleimaaGreat
