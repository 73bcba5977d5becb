/-
  FnExactIsValidExpansion returns true for all arguments, and its arguments read afterwards as they read before.
  Conditions: none.
-/
import Derived.Test.YtaapffgcnndinaaGreatQ7
import Derived.Test.YtaapffgcnndinaaGreatQ5
import Derived.Test.YtaapffgcnndinaaGreatQ1
import Derived.ProofKit
import Derived.Test.YtaapffgcnndinaaGreatQ4
import Derived.Test.YtaapffgcnndinaaGreatRows
import Derived.OpenShut
import Derived.ShutString
import Derived.ChangeOld
namespace Go.Proofs.YtaapffgcnndinaaGreat
set_option linter.unusedSimpArgs false
set_option linter.unusedVariables false
set_option linter.unusedSectionVars false
set_option maxRecDepth 4000
open Go.RowKit
def namesS : Ex → Bool → List Str := Ex.fold fun f ts ps rs pos => (if strongE f pos = true then [(ts.getD 0 Tm.zero).name] else []) ++ ((ps.zip rs).mapIdx fun i q => q.2 (sgn f i pos)).flatten
theorem namesS_eq (e : Ex) (pos : Bool) : namesS e pos = (if strongE e.form pos = true then [(e.terms.getD 0 Tm.zero).name] else []) ++ (e.parts.mapIdx fun i p => namesS p (sgn e.form i pos)).flatten := by
  cases e with
  | mk f ts ps =>
    conv => lhs; unfold namesS; rw [Ex.fold_eq]
    simp only [zip_map]
    rfl
theorem sgn_q {f : Fm} (h : isQ f.op = true) (i : Nat) (pos : Bool) : sgn f i pos = pos := by
  have h8 : f.op = 8 ∨ f.op = 9 := by unfold isQ at h; rw [Bool.or_eq_true, beq_iff_eq, beq_iff_eq] at h; exact h
  unfold sgn
  rcases h8 with e | e <;> rw [e] <;> cases pos <;> rfl
theorem flat_range (w : Nat → Nat) : ∀ (l : List (List Str)) (j : Nat), (∀ i (h : i < l.length), l[i].length ≤ w (j + i)) → l.flatten.length ≤ ((List.range l.length).map fun i => w (j + i)).sum
  | [], _, _ => by simp
  | x :: l, j, h => by
    have h0 := h 0 (by simp)
    rw [Nat.add_zero] at h0
    have h0 : x.length ≤ w j := h0
    have ih := flat_range w l (j + 1) fun i hi => by
      have := h (i + 1) (by simpa using hi)
      rw [show j + 1 + i = j + (i + 1) by omega]
      simpa using this
    have e : ((List.range (x :: l).length).map fun i => w (j + i)).sum = w j + ((List.range l.length).map fun i => w (j + 1 + i)).sum := by
      rw [List.length_cons, List.range_succ_eq_map, List.map_cons, List.sum_cons, List.map_map]
      congr 2
      refine List.map_congr_left fun i _ => ?_
      show w (j + (i + 1)) = _
      rw [show j + (i + 1) = j + 1 + i by omega]
    rw [e, List.flatten_cons, List.length_append]
    omega
theorem namesS_len : ∀ (e : Ex) (pos : Bool), (namesS e pos).length ≤ e.nodes := ex_ind fun f ts ps ih pos => by
  rw [namesS_eq, Ex.nodes_eq]
  have hr := range_sum ps
  have key := flat_range (fun i => (ps.getD i (.mk (mkF 0 []) [] [])).nodes) (ps.mapIdx fun i p => namesS p (sgn f i pos)) 0 fun i h => by
    have hi : i < ps.length := by simpa using h
    have := ih ps[i] (List.getElem_mem hi) (sgn f i pos)
    simp only [List.getElem_mapIdx, Nat.zero_add]
    rw [List.getD_eq_getElem?_getD, List.getElem?_eq_getElem hi]
    exact this
  simp only [List.length_mapIdx, Nat.zero_add] at key
  rw [hr] at key
  show ((if strongE f pos = true then [(ts.getD 0 Tm.zero).name] else []) ++ (ps.mapIdx fun i p => namesS p (sgn f i pos)).flatten).length ≤ 1 + (ps.map Ex.nodes).sum
  rw [List.length_append]
  split
  · rw [List.length_singleton]; omega
  · rw [List.length_nil]; omega
theorem nodeS_parts {e : Ex} {pos : Bool} (h : nodeS e pos = true) : (∀ i (hi : i < e.parts.length), nodeS e.parts[i] (sgn e.form i pos) = true) ∧ (strongE e.form pos = true → e.terms.length = 1) := by
  rw [nodeS_eq] at h
  cases hq : isQ e.form.op
  · rw [hq, if_neg (by simp), Bool.and_eq_true, List.all_eq_true] at h
    refine ⟨fun i hi => ?_, fun hs => by unfold strongE at hs; rw [hq] at hs; cases hs⟩
    have := h.2 _ (List.getElem_mem (l := e.parts.mapIdx fun i p => (same p.form (e.form.parts.getD i (mkF 0 [])) && nodeS p (sgn e.form i pos))) (n := i) (by simpa using hi))
    simp only [List.getElem_mapIdx, id, Bool.and_eq_true] at this
    exact this.2
  · rw [hq, if_pos rfl, Bool.and_eq_true, Bool.and_eq_true, List.all_eq_true] at h
    refine ⟨fun i hi => ?_, fun hs => ?_⟩
    · have := h.2 _ (List.getElem_mem (l := e.parts.mapIdx fun i p => (tstS e.form e.terms i p && nodeS p pos)) (n := i) (by simpa using hi))
      simp only [List.getElem_mapIdx, id, Bool.and_eq_true] at this
      rw [sgn_q hq]; exact this.2
    · have := h.1.2
      rw [hs] at this
      simp only [Bool.not_true, Bool.false_or, Bool.and_eq_true, decide_eq_true_eq] at this
      exact this.1
theorem l17Names_of (e : Ex) (he : e.wt ≤ 1048576) (pos : Bool) (hn : nodeS e pos = true) (H : ∀ p ∈ e.parts, ∀ pos, nodeS p pos = true → FC Tryz.prog 31 [exD p, bD pos] [.one (strS (namesS p pos))]) : FC Tryz.prog 31 [exD e, bD pos] [.one (strS (namesS e pos))] := by
  have hv := namesS_eq e pos
  have hW := e.wt_eq
  have hln := namesS_len e pos
  have hen := enodes_wt e
  have HSt := l17Strong_c e.form pos
  have hse : (isQ e.form.op && ((e.form.op == 8) == pos)) = strongE e.form pos := rfl
  rw [hse] at HSt
  obtain ⟨hpts, hst1⟩ := nodeS_parts hn
  rw [hv]
  rw [hv] at hln
  generalize hL : (e.parts.mapIdx fun i p => namesS p (sgn e.form i pos)) = L at hv hln ⊢
  have hLl : L.length = e.parts.length := by rw [← hL, List.length_mapIdx]
  have hLf : L.flatten.length ≤ e.nodes := by rw [List.length_append] at hln; omega
  have hgrow : ∀ k, ((L.take k).flatten).length ≤ L.flatten.length := fun k => by
    have := congrArg (fun l => l.flatten.length) (List.take_append_drop k L)
    simp only [List.flatten_append, List.length_append] at this
    omega
  simp only [exD, exC_eq, fmD, fmC_eq e.form] at HSt ⊢
  cases hst : strongE e.form pos
  · rw [hst] at HSt hln
    rw [hst] at hv
    refine FC_of Tryz.call31 Tryz.func31 rfl (by kernel_rfl) (by simp only [rd, List.map_cons, List.map_nil, List.length_cons, List.length_nil, Tryz.ntmps31]; omega) ?_
    simp -implicitDefEqProofs only [go_sem, Tryz.results31]
    refine buildDc (by simp -implicitDefEqProofs only [go_sem]) ?_
    simp -implicitDefEqProofs only [go_sem]
    refine callF (HSt) (by simp -implicitDefEqProofs only [go_sem]) ?_
    simp -implicitDefEqProofs only [go_sem]
    refine loop_rule (fun k : Nat => hd [(1, vT (.bool pos)), (2, .one (.bx 2 0)), (5, .one (.ow 224 0)), (6, vI k)] [(2, [.t (.int .i64 e.form.op), .t (.str e.form.atom.name), .t (tmS e.form.atom.args), .t (.str e.form.var), .t (fmS e.form.parts), .t (tmS e.terms), .t (exS e.parts)])] [(224, ⟨true, 1, (([] : List Str) ++ (L.take k).flatten).map fun s => [.str s], 0, true⟩)]) (fun k => k ≤ e.parts.length) (fun k => e.parts.length - k) 0 (weak_hd ?_) (Nat.zero_le _) ?_
    · simp -implicitDefEqProofs only [go_sem]
    · intro k hk
      by_cases hlt : k < e.parts.length
      · have HPo := l17Sign_c e.form k pos
        have hsg : (pos != (e.form.op == 4 || (e.form.op == 7 && ((k : Int) == 0)))) = sgn e.form k pos := rfl
        rw [hsg] at HPo
        have HC := H e.parts[k] (List.getElem_mem hlt) (sgn e.form k pos) (hpts k hlt)
        have hgk := hgrow k
        have hLk : L[k]'(by omega) = namesS e.parts[k] (sgn e.form k pos) := by simp only [← hL, List.getElem_mapIdx]
        simp only [fmD, fmC_eq e.form, exD, exC_eq e.parts[k]] at HPo HC
        have hg2 := hgrow (k + 1)
        have e9 : (L.take (k + 1)).flatten = (L.take k).flatten ++ namesS e.parts[k] (sgn e.form k pos) := by
          rw [List.take_succ_eq_append_getElem (by omega), List.flatten_append, hLk]; simp
        rw [e9, List.length_append] at hg2
        have hap : (L.take k).flatten.length + (namesS e.parts[k] (sgn e.form k pos)).length ≤ 4294967296 := by omega
        have hap2 : (L.take k).flatten.length + 1 + (namesS e.parts[k] (sgn e.form k pos)).length ≤ 4294967296 := by omega
        simp -implicitDefEqProofs only [go_sem, hlt]
        refine drawn (by kernel_rfl) ?_
        simp -implicitDefEqProofs only [go_sem, hlt, getD_at, exC_eq e.parts[k]]
        refine dCallF (HPo) (by simp -implicitDefEqProofs only [go_sem]) ?_
        simp -implicitDefEqProofs only [go_sem]
        refine dCallF (HC) (by simp -implicitDefEqProofs only [go_sem]) ?_
        simp -implicitDefEqProofs only [go_sem]
        refine dApD true (by simp -implicitDefEqProofs only [go_sem, ne_eq, List.length_map, hap, hap2]) ?_
        simp -implicitDefEqProofs only [go_sem, ne_eq, List.length_map, hap, hap2]
        refine ⟨by kernel_rfl, k + 1, hlt, by omega, weak_hd ?_⟩
        simp -implicitDefEqProofs only [go_sem]
        rw [wrap_s (by omega), e9, List.map_append]
        exact ⟨rfl, rfl⟩
      · have htk : (L.take k) = L := List.take_of_length_le (by omega)
        simp -implicitDefEqProofs only [go_sem, hlt, htk]
  · rw [hst] at HSt hln
    rw [hst] at hv
    obtain ⟨t, ht⟩ := List.length_eq_one_iff.1 (hst1 hst)
    have h1 : e.terms.length = 1 := hst1 hst
    have hgd : e.terms.getD 0 Tm.zero = t := by rw [ht]; rfl
    have e0 : (List.map tmC e.terms).getD 0 [] = tmC t := by rw [ht]; rfl
    rw [hgd]
    rw [hgd] at hln
    refine FC_of Tryz.call31 Tryz.func31 rfl (by kernel_rfl) (by simp only [rd, List.map_cons, List.map_nil, List.length_cons, List.length_nil, Tryz.ntmps31]; omega) ?_
    simp -implicitDefEqProofs only [go_sem, Tryz.results31]
    refine buildDc (by simp -implicitDefEqProofs only [go_sem]) ?_
    simp -implicitDefEqProofs only [go_sem]
    refine callF (HSt) (by simp -implicitDefEqProofs only [go_sem, h1, e0, tmC_eq t]) ?_
    simp -implicitDefEqProofs only [go_sem, h1, e0, tmC_eq t]
    refine buildDc (by simp -implicitDefEqProofs only [go_sem]) ?_
    simp -implicitDefEqProofs only [go_sem]
    refine apD true (by simp -implicitDefEqProofs only [go_sem, ne_eq]) ?_
    simp -implicitDefEqProofs only [go_sem, ne_eq]
    refine loop_rule (fun k : Nat => hd [(1, vT (.bool pos)), (2, .one (.bx 2 0)), (5, .one (.ow 224 0)), (6, vI k)] [(2, [.t (.int .i64 e.form.op), .t (.str e.form.atom.name), .t (tmS e.form.atom.args), .t (.str e.form.var), .t (fmS e.form.parts), .t (tmS e.terms), .t (exS e.parts)])] [(224, ⟨true, 1, ([t.name] ++ (L.take k).flatten).map fun s => [.str s], 0, true⟩)]) (fun k => k ≤ e.parts.length) (fun k => e.parts.length - k) 0 (weak_hd ?_) (Nat.zero_le _) ?_
    · simp -implicitDefEqProofs only [go_sem]
    · intro k hk
      by_cases hlt : k < e.parts.length
      · have HPo := l17Sign_c e.form k pos
        have hsg : (pos != (e.form.op == 4 || (e.form.op == 7 && ((k : Int) == 0)))) = sgn e.form k pos := rfl
        rw [hsg] at HPo
        have HC := H e.parts[k] (List.getElem_mem hlt) (sgn e.form k pos) (hpts k hlt)
        have hgk := hgrow k
        have hLk : L[k]'(by omega) = namesS e.parts[k] (sgn e.form k pos) := by simp only [← hL, List.getElem_mapIdx]
        simp only [fmD, fmC_eq e.form, exD, exC_eq e.parts[k]] at HPo HC
        have hg2 := hgrow (k + 1)
        have e9 : (L.take (k + 1)).flatten = (L.take k).flatten ++ namesS e.parts[k] (sgn e.form k pos) := by
          rw [List.take_succ_eq_append_getElem (by omega), List.flatten_append, hLk]; simp
        rw [e9, List.length_append] at hg2
        have hap : (L.take k).flatten.length + (namesS e.parts[k] (sgn e.form k pos)).length ≤ 4294967296 := by omega
        have hap2 : (L.take k).flatten.length + 1 + (namesS e.parts[k] (sgn e.form k pos)).length ≤ 4294967296 := by omega
        simp -implicitDefEqProofs only [go_sem, hlt]
        refine drawn (by kernel_rfl) ?_
        simp -implicitDefEqProofs only [go_sem, hlt, getD_at, exC_eq e.parts[k]]
        refine dCallF (HPo) (by simp -implicitDefEqProofs only [go_sem]) ?_
        simp -implicitDefEqProofs only [go_sem]
        refine dCallF (HC) (by simp -implicitDefEqProofs only [go_sem]) ?_
        simp -implicitDefEqProofs only [go_sem]
        refine dApD true (by simp -implicitDefEqProofs only [go_sem, ne_eq, List.length_map, hap, hap2]) ?_
        simp -implicitDefEqProofs only [go_sem, ne_eq, List.length_map, hap, hap2]
        refine ⟨by kernel_rfl, k + 1, hlt, by omega, weak_hd ?_⟩
        simp -implicitDefEqProofs only [go_sem]
        rw [wrap_s (by omega), e9, List.map_append]
        exact ⟨rfl, rfl⟩
      · have htk : (L.take k) = L := List.take_of_length_le (by omega)
        simp -implicitDefEqProofs only [go_sem, hlt, htk]
end Go.Proofs.YtaapffgcnndinaaGreat
namespace Go.Proofs.YtaapffgcnndinaaGreat
set_option linter.unusedSimpArgs false
set_option linter.unusedVariables false
set_option linter.unusedSectionVars false
set_option maxRecDepth 4000
open Go.RowKit
theorem l17Names_c : ∀ e : Ex, e.wt ≤ 1048576 → ∀ pos, nodeS e pos = true → FC Tryz.prog 31 [exD e, bD pos] [.one (strS (namesS e pos))] :=
  ex_ind fun f ts ps ih he pos hn => l17Names_of (.mk f ts ps) he pos hn fun p hp pos hn => ih p hp (Nat.le_trans (eparts_wt (a := .mk f ts ps) hp) he) pos hn
theorem l17Node_c : ∀ e : Ex, e.wt ≤ 1048576 → e.form.forms = true → ∀ pos, nodeSP e pos :=
  ex_ind fun f ts ps ih he hf pos => l17Node_of (.mk f ts ps) he hf (fun p hp hpf pos => ih p hp (Nat.le_trans (eparts_wt (a := .mk f ts ps) hp) he) hpf pos) pos
noncomputable def specOk (e : Ex) (pos : Bool) : Bool := e.form.good && decide (e.nodes ≤ 60) && nodeS e pos && dec ((namesS e pos).Nodup ∧ ∀ n ∈ namesS e pos, n ∉ putSs [] (vf e.form []))
set_option maxHeartbeats 2000000 in
theorem l17Good_c (e : Ex) (he : e.wt ≤ 1048576) (pos : Bool) : FC Tryz.prog 12 [exD e, bD pos] [bD (specOk e pos)] := by
  have hv : specOk e pos = (e.form.good && decide (e.nodes ≤ 60) && nodeS e pos && dec ((namesS e pos).Nodup ∧ ∀ n ∈ namesS e pos, n ∉ putSs [] (vf e.form []))) := rfl
  have HN := l17Size_c e (by omega) 60 (by omega) (by omega)
  have hs : decide (manyE e 60 ≤ 60) = decide (e.nodes ≤ 60) := manyE_le e 60
  have hfw := form_wt e
  have HG := l8Good_c e.form (by omega)
  simp only [exD, exC_eq, fmD, fmC_eq] at HN HG ⊢
  cases hg : e.form.good
  · rw [hg, Bool.false_and, Bool.false_and, Bool.false_and] at hv
    rw [hv]
    rw [hg] at HG
    refine FC_of Tryz.call12 Tryz.func12 rfl (by kernel_rfl) (by simp only [rd, List.map_cons, List.map_nil, List.length_cons, List.length_nil, Tryz.ntmps12]; omega) ?_
    simp -implicitDefEqProofs only [go_sem, Tryz.results12]
    refine callF (HG) (by simp -implicitDefEqProofs only [go_sem]) ?_
    simp -implicitDefEqProofs only [go_sem]
  · rw [hg, Bool.true_and] at hv
    rw [hg] at HG
    cases hn : decide (e.nodes ≤ 60)
    · have hs2 : decide (60 < manyE e 60) = true := by rw [hn] at hs; rw [decide_eq_true_eq]; rw [decide_eq_false_iff_not] at hs; omega
      rw [hn, Bool.false_and, Bool.false_and] at hv
      rw [hv]
      refine FC_of Tryz.call12 Tryz.func12 rfl (by kernel_rfl) (by simp only [rd, List.map_cons, List.map_nil, List.length_cons, List.length_nil, Tryz.ntmps12]; omega) ?_
      simp -implicitDefEqProofs only [go_sem, Tryz.results12]
      refine callF (HG) (by simp -implicitDefEqProofs only [go_sem]) ?_
      simp -implicitDefEqProofs only [go_sem]
      refine callF (HN) (by simp -implicitDefEqProofs only [go_sem, hs2]) ?_
      simp -implicitDefEqProofs only [go_sem, hs2]
    · have hs2 : decide (60 < manyE e 60) = false := by rw [hn] at hs; rw [decide_eq_false_iff_not]; rw [decide_eq_true_eq] at hs; omega
      rw [hn, Bool.true_and] at hv
      have HD := l17Node_c e he (gforms' hg) pos
      unfold nodeSP at HD
      simp only [exD, exC_eq] at HD
      cases hnd : nodeS e pos
      · rw [hnd, Bool.false_and] at hv
        rw [hv]
        rw [hnd] at HD
        refine FC_of Tryz.call12 Tryz.func12 rfl (by kernel_rfl) (by simp only [rd, List.map_cons, List.map_nil, List.length_cons, List.length_nil, Tryz.ntmps12]; omega) ?_
        simp -implicitDefEqProofs only [go_sem, Tryz.results12]
        refine callF (HG) (by simp -implicitDefEqProofs only [go_sem]) ?_
        simp -implicitDefEqProofs only [go_sem]
        refine callF (HN) (by simp -implicitDefEqProofs only [go_sem, hs2]) ?_
        simp -implicitDefEqProofs only [go_sem, hs2]
        refine callF (HD) (by simp -implicitDefEqProofs only [go_sem]) ?_
        simp -implicitDefEqProofs only [go_sem]
      · rw [hnd, Bool.true_and] at hv
        rw [hnd] at HD
        have HM := l17Names_c e he pos hnd
        have HF := l8Free_c e.form (gforms' hg) (by omega)
        have hnl := namesS_len e pos
        have hen := enodes_wt e
        generalize namesS e pos = ns at hv HM hnl
        generalize putSs [] (vf e.form []) = V at hv HF
        simp only [exD, exC_eq, fmD, fmC_eq] at HM HF
        refine FC_ofN Tryz.call12 Tryz.func12 rfl (by kernel_rfl) (by simp only [rd, List.map_cons, List.map_nil, List.length_cons, List.length_nil, Tryz.ntmps12]; omega) ?_
        simp -implicitDefEqProofs only [go_sem, Tryz.results12]
        refine callF (HG) (by simp -implicitDefEqProofs only [go_sem]) ?_
        simp -implicitDefEqProofs only [go_sem]
        refine callF (HN) (by simp -implicitDefEqProofs only [go_sem, hs2]) ?_
        simp -implicitDefEqProofs only [go_sem, hs2]
        refine callF (HD) (by simp -implicitDefEqProofs only [go_sem]) ?_
        simp -implicitDefEqProofs only [go_sem]
        refine callFr (HM) (by simp -implicitDefEqProofs only [go_sem]) ?_
        simp -implicitDefEqProofs only [go_sem]
        refine callFr (HF) (by simp -implicitDefEqProofs only [go_sem]) ?_
        simp -implicitDefEqProofs only [go_sem]
        refine loop_rule (fun k : Nat => hd [(5, .one (.rn (strS ns))), (6, .one (.rn (strS V))), (7, vI k)] [] []) (fun k => k ≤ ns.length ∧ (ns.take k).Nodup ∧ ∀ n ∈ ns.take k, n ∉ V) (fun k => ns.length - k) 0 (weak_hd ?_) ⟨Nat.zero_le _, List.nodup_nil, by simp⟩ ?_
        · simp -implicitDefEqProofs only [go_sem]
        · rintro k ⟨hk, hT, hT2⟩
          by_cases hlt : k < ns.length
          · have H1 := l2In_c (ns.take k) ns[k]
            have H2 := l2In_c V ns[k]
            have eT : strS (ns.take k) = .sl 1 ((ns.map fun s => [T.str s]).take k) := by unfold strS; rw [List.map_take]
            rw [eT] at H1
            cases h1 : (ns.take k).contains ns[k]
            · rw [h1] at H1
              cases h2 : V.contains ns[k]
              · rw [h2] at H2
                simp -implicitDefEqProofs only [go_sem, hlt]
                refine drawn (by kernel_rfl) ?_
                simp -implicitDefEqProofs only [go_sem, getD_at, hlt]
                refine ⟨hk, ?_⟩
                refine dCallF (H1) (by simp -implicitDefEqProofs only [go_sem, getD_at, hlt]) ?_
                simp -implicitDefEqProofs only [go_sem, getD_at, hlt]
                refine gCallF (H2) (by simp -implicitDefEqProofs only [go_sem]) ?_
                simp -implicitDefEqProofs only [go_sem]
                refine ⟨by kernel_rfl, k + 1, ⟨hlt, ?_, ?_⟩, by omega, weak_hd ?_⟩
                · rw [List.take_succ_eq_append_getElem hlt, List.nodup_append]
                  refine ⟨hT, by simp, ?_⟩
                  rintro a ha b hb rfl
                  rw [List.mem_singleton] at hb
                  subst hb
                  rw [List.contains_iff_mem.2 ha] at h1
                  cases h1
                · intro n hn
                  rw [List.take_succ_eq_append_getElem hlt] at hn
                  rcases List.mem_append.1 hn with hn | hn
                  · exact hT2 n hn
                  · rw [List.mem_singleton] at hn
                    subst hn
                    intro hm
                    rw [List.contains_iff_mem.2 hm] at h2
                    cases h2
                · simp -implicitDefEqProofs only [go_sem]
                  rw [wrap_s (by omega)]
              · rw [h2] at H2
                have hbad : dec (ns.Nodup ∧ ∀ n ∈ ns, n ∉ V) = false := dec_no.2 fun h => h.2 _ (List.getElem_mem hlt) (List.contains_iff_mem.1 h2)
                rw [hv, hbad]
                simp -implicitDefEqProofs only [go_sem, hlt]
                refine drawn (by kernel_rfl) ?_
                simp -implicitDefEqProofs only [go_sem, getD_at, hlt]
                refine ⟨hk, ?_⟩
                refine dCallF (H1) (by simp -implicitDefEqProofs only [go_sem, getD_at, hlt]) ?_
                simp -implicitDefEqProofs only [go_sem, getD_at, hlt]
                refine gCallF (H2) (by simp -implicitDefEqProofs only [go_sem]) ?_
                simp -implicitDefEqProofs only [go_sem]
                kernel_rfl
            · rw [h1] at H1
              have hbad : dec (ns.Nodup ∧ ∀ n ∈ ns, n ∉ V) = false := dec_no.2 fun h => by
                have h3 := h.1.sublist (List.take_sublist (k + 1) ns)
                rw [List.take_succ_eq_append_getElem hlt, List.nodup_append] at h3
                exact h3.2.2 _ (List.contains_iff_mem.1 h1) _ (by simp) rfl
              rw [hv, hbad]
              simp -implicitDefEqProofs only [go_sem, hlt]
              refine drawn (by kernel_rfl) ?_
              simp -implicitDefEqProofs only [go_sem, getD_at, hlt]
              refine ⟨hk, ?_⟩
              refine dCallF (H1) (by simp -implicitDefEqProofs only [go_sem, getD_at, hlt]) ?_
              simp -implicitDefEqProofs only [go_sem, getD_at, hlt]
              kernel_rfl
          · rw [List.take_of_length_le (by omega)] at hT hT2
            rw [show dec (ns.Nodup ∧ ∀ n ∈ ns, n ∉ V) = true from dec_iff.2 ⟨hT, hT2⟩] at hv
            rw [hv]
            simp -implicitDefEqProofs only [go_sem, hlt]
end Go.Proofs.YtaapffgcnndinaaGreat
namespace Go.Proofs.YtaapffgcnndinaaGreat
set_option linter.unusedSimpArgs false
set_option linter.unusedVariables false
set_option linter.unusedSectionVars false
set_option maxRecDepth 4000
open Go.RowKit
theorem indexFuncStr_c (xs : List Str) (p : Str → Bool) (g : FuncId) (caps : List T) (H : ∀ x ∈ xs, FC Tryz.prog g (sD x :: caps.map .one) [bD (p x)]) : FC Tryz.prog 45 [.one (strS xs), .one (.fn g caps)] [iD (idxP xs p)] := by
  refine FC_wf (fun hw => ?_) Tryz.call45
  have hl : xs.length ≤ 9223372036854775807 := by simpa [wfDs, wfT] using hw.1.1
  refine FC_of Tryz.call45 Tryz.func45 rfl (by kernel_rfl) (by simp only [rd, List.map_cons, List.map_nil, List.length_cons, List.length_nil, Tryz.ntmps45]; omega) ?_
  simp -implicitDefEqProofs only [go_sem, Tryz.results45]
  refine loop_rule (fun k : Nat => hd [(0, vT (strS xs)), (1, vT (.fn g caps)), (7, vI xs.length), (8, vI k)] [] []) (fun k => k ≤ xs.length ∧ ∀ x ∈ xs.take k, p x = false) (fun k => xs.length - k) 0 (weak_hd ?_) ?_ ?_
  · simp -implicitDefEqProofs only [go_sem]
  · simp
  · intro k ⟨hk, hr⟩
    by_cases hlt : k < xs.length
    · simp -implicitDefEqProofs only [go_sem, getD_at, hlt, ne_eq]
      refine callF (H xs[k] (List.getElem_mem hlt)) (by simp -implicitDefEqProofs only [go_sem, ne_eq]) ?_
      simp -implicitDefEqProofs only [go_sem, ne_eq]
      refine ⟨fun h => ?_, fun h => ⟨k + 1, ⟨hlt, take_all_succ hlt hr h⟩, by omega, weak_hd (by simp -implicitDefEqProofs only [go_sem]; rw [wrap_s (by omega)])⟩⟩
      rw [idxP_found hlt hr h]
    · simp -implicitDefEqProofs only [go_sem, hlt]
      rw [List.take_of_length_le (by omega)] at hr
      rw [idxP_none hr]
theorem containsFuncStr_c (xs : List Str) (p : Str → Bool) (g : FuncId) (caps : List T) (H : ∀ x ∈ xs, FC Tryz.prog g (sD x :: caps.map .one) [bD (p x)]) : FC Tryz.prog 20 [.one (strS xs), .one (.fn g caps)] [bD (xs.any p)] := by
  refine FC_of Tryz.call20 Tryz.func20 rfl (by kernel_rfl) (by simp only [rd, List.map_cons, List.map_nil, List.length_cons, List.length_nil, Tryz.ntmps20]; omega) ?_
  simp -implicitDefEqProofs only [go_sem, Tryz.results20]
  refine callF (indexFuncStr_c xs p g caps H) (by simp -implicitDefEqProofs only [go_sem]) ?_
  simp -implicitDefEqProofs only [go_sem]
  rw [idxP_any]
end Go.Proofs.YtaapffgcnndinaaGreat
namespace Go.Proofs.YtaapffgcnndinaaGreat
set_option linter.unusedSimpArgs false
set_option linter.unusedVariables false
set_option linter.unusedSectionVars false
set_option maxRecDepth 4000
open Go.RowKit
/-- A valid expansion. -/
noncomputable def expOk (e : Ex) (pos : Bool) : Bool := decide (e.nodes ≤ 60) && e.form.good && (nodeI e pos []).1 && !((nodeI e pos []).2.any fun n => (putSs [] (vf e.form [])).contains n)
theorem isValidExp1_c (V : List Str) (s : Str) : FC Tryz.prog 21 [sD s, .one (.ptr [strS V])] [bD (V.contains s)] := by
  have H := containsStr_c V s
  refine FC_of Tryz.call21 Tryz.func21 rfl (by kernel_rfl) (by simp only [rd, List.map_cons, List.map_nil, List.length_cons, List.length_nil, Tryz.ntmps21]; omega) ?_
  simp -implicitDefEqProofs only [go_sem, Tryz.results21]
  refine callF (H) (by simp -implicitDefEqProofs only [go_sem]) ?_
  simp -implicitDefEqProofs only [go_sem]
theorem isValidExpansion_c (e : Ex) (he : e.wt ≤ 1048576) (pos : Bool) : FC Tryz.prog 7 [exD e, bD pos] [bD (expOk e pos)] := by
  have hv : expOk e pos = (decide (e.nodes ≤ 60) && e.form.good && (nodeI e pos []).1 && !((nodeI e pos []).2.any fun n => (putSs [] (vf e.form [])).contains n)) := rfl
  have HN := nodesOf_c e (by omega)
  have hs := sizeE_le e
  have hfw := form_wt e
  have HG := isValidFormula_c e.form (by omega)
  simp only [exD, exC_eq, fmD, fmC_eq] at HN HG ⊢
  cases hn : decide (e.nodes ≤ 60)
  · have hs2 : decide (60 < sizeE e) = true := by rw [hn] at hs; rw [decide_eq_true_eq]; rw [decide_eq_false_iff_not] at hs; omega
    rw [hn, Bool.false_and, Bool.false_and, Bool.false_and] at hv
    rw [hv]
    refine FC_ofN Tryz.call7 Tryz.func7 rfl (by kernel_rfl) (by simp only [rd, List.map_cons, List.map_nil, List.length_cons, List.length_nil, Tryz.ntmps7]; omega) ?_
    simp -implicitDefEqProofs only [go_sem, Tryz.results7]
    refine callF (HN) (by simp -implicitDefEqProofs only [go_sem, hs2]) ?_
    simp -implicitDefEqProofs only [go_sem, hs2]
  · have hs2 : decide (60 < sizeE e) = false := by rw [hn] at hs; rw [decide_eq_false_iff_not]; rw [decide_eq_true_eq] at hs; omega
    cases hg : e.form.good
    · rw [hn, hg, Bool.true_and, Bool.false_and, Bool.false_and] at hv
      rw [hv]
      rw [hg] at HG
      refine FC_ofN Tryz.call7 Tryz.func7 rfl (by kernel_rfl) (by simp only [rd, List.map_cons, List.map_nil, List.length_cons, List.length_nil, Tryz.ntmps7]; omega) ?_
      simp -implicitDefEqProofs only [go_sem, Tryz.results7]
      refine callF (HN) (by simp -implicitDefEqProofs only [go_sem, hs2]) ?_
      simp -implicitDefEqProofs only [go_sem, hs2]
      refine callF (HG) (by simp -implicitDefEqProofs only [go_sem]) ?_
      simp -implicitDefEqProofs only [go_sem]
    · rw [hn, hg, Bool.true_and, Bool.true_and] at hv
      rw [hg] at HG
      have HF := free_c e.form (gforms' hg) (by omega)
      have hen := enodes_wt e
      have HI := node_c e he (gforms' hg) pos [] (by simp only [List.length_nil]; omega)
      unfold nodeP at HI
      generalize (nodeI e pos []).1 = b at hv HI
      generalize (nodeI e pos []).2 = E at hv HI
      generalize putSs [] (vf e.form []) = V at hv HF
      have HA := containsFuncStr_c E (fun s => V.contains s) 21 [.ptr [strS V]] fun s _ => isValidExp1_c V s
      simp only [exD, exC_eq, fmD, fmC_eq, List.map_nil] at HI HF
      refine FC_ofN Tryz.call7 Tryz.func7 rfl (by kernel_rfl) (by simp only [rd, List.map_cons, List.map_nil, List.length_cons, List.length_nil, Tryz.ntmps7]; omega) ?_
      simp -implicitDefEqProofs only [go_sem, Tryz.results7]
      refine callF (HN) (by simp -implicitDefEqProofs only [go_sem, hs2]) ?_
      simp -implicitDefEqProofs only [go_sem, hs2]
      refine callF (HG) (by simp -implicitDefEqProofs only [go_sem]) ?_
      simp -implicitDefEqProofs only [go_sem]
      refine callFr (HF) (by simp -implicitDefEqProofs only [go_sem]) ?_
      simp -implicitDefEqProofs only [go_sem]
      refine callPL [4, 5, 6] [21, 22, 23] [17] [] (HI) (by decide) rfl (by simp -implicitDefEqProofs only [go_sem]) (by simp -implicitDefEqProofs only [go_sem]) (by simp -implicitDefEqProofs only [go_sem]) (by simp -implicitDefEqProofs only [go_sem]) ?_
      simp -implicitDefEqProofs only [go_sem]
      refine ⟨fun hb => ?_, fun hb => Or.inl (by rw [hv, hb]; rfl)⟩
      refine callF (HA) (by simp -implicitDefEqProofs only [go_sem]) ?_
      simp -implicitDefEqProofs only [go_sem]
      exact Or.inl (by rw [hv, hb]; rfl)
end Go.Proofs.YtaapffgcnndinaaGreat
namespace Go.Proofs.YtaapffgcnndinaaGreat
set_option linter.unusedSimpArgs false
set_option linter.unusedVariables false
set_option linter.unusedSectionVars false
set_option maxRecDepth 4000
open Go.RowKit
theorem put_nodes (n : Str) (t : Tm) : ∀ f : Fm, f.forms = true → (putF n t f).2 = true → (putF n t f).1.nodes = f.nodes := fm_ind fun o a v ps ih hf h => by
  have hP := putF_eq n t (.mk o a v ps)
  have hf0 := hf
  rw [Fm.forms_eq, Bool.and_eq_true] at hf0
  obtain ⟨hh, hps⟩ := hf0
  have hps : ∀ x ∈ ps, x.forms = true := List.all_eq_true.1 hps
  cases h3 : o == 3
  · rw [hP] at h ⊢
    change (if (o == 3) = true then _ else if (isQ o && _) = true then _ else if (isQ o && _) = true then _ else (Fm.mk o (.mk [] []) v ((ps.takeWhile fun x => (putF n t x).2).map fun x => (putF n t x).1), ps.all fun x => (putF n t x).2) : Fm × Bool).2 = true at h
    change (if (o == 3) = true then _ else if (isQ o && _) = true then _ else if (isQ o && _) = true then _ else (Fm.mk o (.mk [] []) v ((ps.takeWhile fun x => (putF n t x).2).map fun x => (putF n t x).1), ps.all fun x => (putF n t x).2) : Fm × Bool).1.nodes = _
    rw [h3, if_neg (by simp)] at h ⊢
    split
    · rfl
    · rename_i h1
      rw [if_neg h1] at h
      split
      · rename_i h2
        rw [if_pos h2] at h; cases h
      · rename_i h2
        rw [if_neg h2] at h
        have h1 : (ps.all fun x => (putF n t x).2) = true := h
        have hA := List.all_eq_true.1 h1
        have hw : (ps.takeWhile fun x => (putF n t x).2) = ps := by
          have := (takeW_at (l := ps) (p := fun x => (putF n t x).2) (k := ps.length) (Nat.le_refl _) (by rw [List.take_length]; exact hA) fun h => absurd h (Nat.lt_irrefl _)).1
          rw [this, List.take_length]
        rw [hw]
        show (Fm.mk o (.mk [] []) v (ps.map fun x => (putF n t x).1)).nodes = _
        rw [Fm.nodes_eq, Fm.nodes_eq]
        show 1 + ((ps.map fun x => (putF n t x).1).map Fm.nodes).sum = 1 + (ps.map Fm.nodes).sum
        rw [List.map_map]
        show 1 + (ps.map fun x => (putF n t x).1.nodes).sum = _
        rw [List.map_congr_left (g := Fm.nodes) fun x hx => ih x hx (hps x hx) (hA x hx)]
  · have ho3 : o = 3 := by simpa using h3
    obtain ⟨_, hp⟩ := here_atom (f := .mk o a v ps) hh ho3
    have hp : ps = [] := hp
    rw [hP]
    change (if (o == 3) = true then (Fm.mk o (putT (bnd n t) a) v [], (putT (bnd n t) a).atomOk) else _ : Fm × Bool).1.nodes = _
    rw [h3, if_pos rfl, hp, Fm.nodes_eq, Fm.nodes_eq]
    rfl
theorem same_comm {α : Type} (a b : α) : same a b = same b a := by
  rw [Bool.eq_iff_iff, same_iff, same_iff]; exact eq_comm
theorem sb_put (n : Str) (t : Tm) (q : Fm) (hq : q.good = true) (hn : varOk n = true) (ht : t.good = true) (g : Fm) : ((sbF n t q).2 && same (sbF n t q).1 g) = ((putF n t q).2 && same g (putF n t q).1) := by
  have htn : t.names = true := ((Bool.and_eq_true _ _).mp ht).2
  have hqf := gforms' hq
  have h1 := sub_good n t hn htn q hqf
  have h2 := sub_put n t hn htn q hqf
  unfold sbF
  rw [hq, hn, ht]
  simp only [Bool.and_self, Bool.true_and]
  rw [h1]
  cases hp : (putF n t q).2
  · simp only [Bool.false_and, Bool.false_eq_true, if_false]
  · have hpf := put_forms n t q hqf hp
    have hpg : (putF n t q).1.good = true := by
      unfold Fm.good at hq ⊢
      rw [Bool.and_eq_true, decide_eq_true_eq] at hq ⊢
      rw [put_nodes n t q hqf hp]
      exact ⟨hq.1, hpf⟩
    rw [hpg]
    simp only [Bool.and_self, if_true, Bool.true_and]
    rw [h2.2 hp hpf, same_comm]
theorem good_part {f q : Fm} (h : f.good = true) (hm : q ∈ f.parts) : q.good = true := by
  unfold Fm.good at h ⊢
  rw [Bool.and_eq_true, decide_eq_true_eq] at h ⊢
  have hp := part_nodes hm
  have := h.2
  rw [Fm.forms_eq, Bool.and_eq_true] at this
  exact ⟨by omega, List.all_eq_true.1 this.2 q hm⟩
/-- A run, if each step does as it is said to. -/
theorem runL_spec : ∀ (L : List (Bool × (List Str → Bool × List Str))) (S : List (Bool × List Str)) (hl : L.length = S.length) (E : List Str), E.Nodup → (∀ i (h : i < L.length), L[i].1 = true → ∀ E : List Str, E.Nodup → ((L[i].2 E).1 = true ↔ (S[i]'(by omega)).1 = true ∧ (E ++ (S[i]'(by omega)).2).Nodup) ∧ ((L[i].2 E).1 = true → (L[i].2 E).2 = E ++ (S[i]'(by omega)).2)) →
    ((runL L E).1 = true ↔ (∀ i (h : i < L.length), L[i].1 = true ∧ (S[i]'(by omega)).1 = true) ∧ (E ++ (S.map Prod.snd).flatten).Nodup) ∧ ((runL L E).1 = true → (runL L E).2 = E ++ (S.map Prod.snd).flatten)
  | [], [], _, E, hE, _ => ⟨⟨fun _ => ⟨fun i h => by simp at h, by simpa using hE⟩, fun _ => rfl⟩, fun _ => by simp [runL]⟩
  | [], _ :: _, hl, _, _, _ => by simp at hl
  | _ :: _, [], hl, _, _, _ => by simp at hl
  | (c, g) :: L, (s, N) :: S, hl, E, hE, h => by
    have hl' : L.length = S.length := by simpa using hl
    cases hc : c
    · have : runL ((false, g) :: L) E = (false, E) := rfl
      rw [this]
      refine ⟨⟨fun h => (by cases h), fun h => ?_⟩, fun h => (by cases h)⟩
      have := (h.1 0 (by simp)).1
      cases this
    · subst hc
      obtain ⟨k1, k2⟩ := h 0 (by simp) rfl E hE
      have k1 : (g E).1 = true ↔ s = true ∧ (E ++ N).Nodup := k1
      have k2 : (g E).1 = true → (g E).2 = E ++ N := k2
      cases hg : (g E).1
      · have e0 : runL ((true, g) :: L) E = (false, (g E).2) := by unfold runL; rw [if_pos rfl, hg, if_neg (by simp)]
        rw [e0]
        rw [hg] at k1
        refine ⟨⟨fun h => (by cases h), fun h => ?_⟩, fun h => (by cases h)⟩
        have h1 := (h.1 0 (by simp)).2
        have h2 : (E ++ N).Nodup := by
          have := h.2
          rw [List.map_cons, List.flatten_cons, ← List.append_assoc] at this
          exact (List.nodup_append.1 this).1
        exact (by have := k1.2 ⟨h1, h2⟩; cases this)
      · have e0 : runL ((true, g) :: L) E = runL L (g E).2 := by unfold runL; rw [if_pos rfl, hg, if_pos rfl]; cases L <;> rfl
        rw [e0, k2 hg]
        obtain ⟨s1, n1⟩ := k1.1 hg
        obtain ⟨r1, r2⟩ := runL_spec L S hl' (E ++ N) n1 fun i hi hci E hE => by
          have := h (i + 1) (by simpa using hi) (by simpa using hci) E hE
          simpa using this
        rw [List.map_cons, List.flatten_cons, ← List.append_assoc]
        refine ⟨r1.trans ⟨fun ⟨a, b⟩ => ⟨fun i hi => ?_, b⟩, fun ⟨a, b⟩ => ⟨fun i hi => ?_, b⟩⟩, r2⟩
        · cases i with
          | zero => exact ⟨rfl, s1⟩
          | succ i => exact a i (by simpa using hi)
        · exact a (i + 1) (by simpa using hi)
end Go.Proofs.YtaapffgcnndinaaGreat
namespace Go.Proofs.YtaapffgcnndinaaGreat
set_option linter.unusedSimpArgs false
set_option linter.unusedVariables false
set_option linter.unusedSectionVars false
set_option maxRecDepth 4000
open Go.RowKit
theorem all_iff {ps : List Ex} (t : Nat → Ex → Bool) (s : Nat → Ex → Bool) : (ps.mapIdx fun i p => (t i p && s i p)).all id = true ↔ ∀ i (h : i < ps.length), t i ps[i] = true ∧ s i ps[i] = true := by
  rw [List.all_eq_true]
  constructor
  · intro h i hi
    have := h _ (List.getElem_mem (l := ps.mapIdx fun i p => (t i p && s i p)) (n := i) (by simpa using hi))
    simpa only [List.getElem_mapIdx, id, Bool.and_eq_true] using this
  · intro h x hx
    obtain ⟨i, hi, rfl⟩ := List.getElem_of_mem hx
    have hi' : i < ps.length := by simpa using hi
    simp only [List.getElem_mapIdx, id, Bool.and_eq_true]
    exact h i hi'
/-- Parts that are tested and walked. -/
theorem parts_spec (ps : List Ex) (t : Nat → Ex → Bool) (sg : Nat → Bool) (ih : ∀ i (h : i < ps.length), t i ps[i] = true → ∀ E : List Str, E.Nodup → ((nodeI ps[i] (sg i) E).1 = true ↔ nodeS ps[i] (sg i) = true ∧ (E ++ namesS ps[i] (sg i)).Nodup) ∧ ((nodeI ps[i] (sg i) E).1 = true → (nodeI ps[i] (sg i) E).2 = E ++ namesS ps[i] (sg i))) (E : List Str) (hE : E.Nodup) :
    ((runL (ps.mapIdx fun i p => (t i p, nodeI p (sg i))) E).1 = true ↔ (ps.mapIdx fun i p => (t i p && nodeS p (sg i))).all id = true ∧ (E ++ (ps.mapIdx fun i p => namesS p (sg i)).flatten).Nodup) ∧ ((runL (ps.mapIdx fun i p => (t i p, nodeI p (sg i))) E).1 = true → (runL (ps.mapIdx fun i p => (t i p, nodeI p (sg i))) E).2 = E ++ (ps.mapIdx fun i p => namesS p (sg i)).flatten) := by
  have h := runL_spec (ps.mapIdx fun i p => (t i p, nodeI p (sg i))) (ps.mapIdx fun i p => (nodeS p (sg i), namesS p (sg i))) (by simp) E hE fun i hi hc E hE => by
    have hi' : i < ps.length := by simpa using hi
    simp only [List.getElem_mapIdx] at hc ⊢
    exact ih i hi' hc E hE
  have em : (ps.mapIdx fun i p => (nodeS p (sg i), namesS p (sg i))).map Prod.snd = ps.mapIdx fun i p => namesS p (sg i) := by
    refine List.ext_getElem? fun i => ?_
    simp only [List.getElem?_map, List.getElem?_mapIdx, Option.map_map, Function.comp_def]
  rw [em] at h
  refine ⟨h.1.trans (and_congr_left fun _ => ?_), h.2⟩
  rw [all_iff]
  constructor
  · intro a i hi
    have := a i (by simpa using hi)
    simpa only [List.getElem_mapIdx] using this
  · intro a i hi
    have := a i (by simpa using hi)
    simpa only [List.getElem_mapIdx] using this
theorem node_spec : ∀ e : Ex, e.form.good = true → ∀ pos (E : List Str), E.Nodup → ((nodeI e pos E).1 = true ↔ nodeS e pos = true ∧ (E ++ namesS e pos).Nodup) ∧ ((nodeI e pos E).1 = true → (nodeI e pos E).2 = E ++ namesS e pos) := ex_ind fun f ts ps ih hg pos E hE => by
  rw [nodeI_eq, nodeS_eq, namesS_eq]
  have hg : f.good = true := hg
  have eF : (Ex.mk f ts ps).form = f := rfl
  have eT : (Ex.mk f ts ps).terms = ts := rfl
  have eP : (Ex.mk f ts ps).parts = ps := rfl
  simp only [eF, eT, eP]
  cases hq : isQ f.op
  · have hst : strongE f pos = false := by unfold strongE; rw [hq]; rfl
    rw [hst]
    simp only [Bool.false_eq_true, if_false, List.nil_append]
    by_cases hc : ts.length = 0 ∧ ps.length = f.parts.length
    · rw [if_pos hc]
      have h := parts_spec ps (tstN f) (fun i => sgn f i pos) (fun i hi ht E hE => ih ps[i] (List.getElem_mem hi) (by
        have hif : i < f.parts.length := by omega
        unfold tstN at ht
        rw [getD_eq hif] at ht
        rw [← same_iff.1 ht]
        exact good_part hg (List.getElem_mem hif)) _ E hE) E hE
      rw [show decide (ts.length = 0) = true by simp [hc.1], show decide (ps.length = f.parts.length) = true by simp [hc.2], Bool.true_and, Bool.true_and]
      have e1 : (fun (i : Nat) (p : Ex) => (same p.form (f.parts.getD i (mkF 0 [])) && nodeS p (sgn f i pos))) = fun i p => (tstN f i p && nodeS p (sgn f i pos)) := by
        funext i p; unfold tstN; rw [same_comm]
      rw [e1]
      exact h
    · rw [if_neg hc]
      refine ⟨⟨fun h => (by cases h), fun h => ?_⟩, fun h => (by cases h)⟩
      have h := h.1
      simp only [Bool.and_eq_true, decide_eq_true_eq] at h
      exact absurd h.1 hc
  · obtain ⟨q, hp, hqf⟩ := q_parts hq (gforms' hg)
    have hqg : q.good = true := good_part hg (by rw [hp]; simp)
    have hvar : varOk f.var = true := by
      have := gforms' hg
      rw [Fm.forms_eq, Bool.and_eq_true] at this
      exact here_q this.1 hq
    have esg : (fun (i : Nat) (p : Ex) => namesS p (sgn f i pos)) = fun i p => namesS p pos := by funext i p; rw [sgn_q hq]
    have hse : strongE f pos = ((f.op == 8) == pos) := by unfold strongE; rw [hq, Bool.true_and]
    simp only [if_true]
    rw [esg]
    -- where the terms are valid
    have core : TOk ts → ts.length = ps.length → ∀ E1 : List Str, E1.Nodup → ((runL (ps.mapIdx fun i p => (tstQ f ts i p, nodeI p pos)) E1).1 = true ↔ (ps.mapIdx fun i p => (tstS f ts i p && nodeS p pos)).all id = true ∧ (E1 ++ (ps.mapIdx fun i p => namesS p pos).flatten).Nodup) ∧ ((runL (ps.mapIdx fun i p => (tstQ f ts i p, nodeI p pos)) E1).1 = true → (runL (ps.mapIdx fun i p => (tstQ f ts i p, nodeI p pos)) E1).2 = E1 ++ (ps.mapIdx fun i p => namesS p pos).flatten) := fun hT hl E1 hE1 => by
      have et : ∀ i (h : i < ps.length), tstQ f ts i ps[i] = tstS f ts i ps[i] := fun i hi => by
        have hit : i < ts.length := by omega
        obtain ⟨g1, g2⟩ := hT i hit
        have hpq : f.parts.getD 0 (mkF 0 []) = q := by
          have hp : f.parts = [q] := hp
          rw [hp]; rfl
        unfold tstQ tstS
        rw [getD_eq hit, hpq, sb_put f.var ts[i] q hqg hvar g1, g1, g2]
        simp only [Bool.not_false, Bool.and_self, Bool.true_and]
      have em : (ps.mapIdx fun i p => (tstQ f ts i p, nodeI p pos)) = ps.mapIdx fun i p => (tstS f ts i p, nodeI p pos) := by
        refine List.ext_getElem (by simp) fun i h1 h2 => ?_
        simp only [List.getElem_mapIdx]
        rw [et i (by simpa using h1)]
      rw [em]
      refine parts_spec ps (tstS f ts) (fun _ => pos) (fun i hi ht E hE => ih ps[i] (List.getElem_mem hi) ?_ _ E hE) E1 hE1
      have hit : i < ts.length := by omega
      have hpq : f.parts.getD 0 (mkF 0 []) = q := by
        have hp : f.parts = [q] := hp
        rw [hp]; rfl
      unfold tstS at ht
      rw [getD_eq hit, hpq] at ht
      simp only [Bool.and_eq_true] at ht
      rw [same_iff.1 ht.2]
      unfold Fm.good at hqg ⊢
      rw [Bool.and_eq_true, decide_eq_true_eq] at hqg ⊢
      rw [put_nodes _ _ q hqf ht.1.2]
      exact ⟨hqg.1, put_forms _ _ q hqf ht.1.2⟩
    have hTS : ts.length = ps.length → (ps.mapIdx fun i p => (tstS f ts i p && nodeS p pos)).all id = true → TOk ts := fun hl h k hk => by
      have h := (all_iff (tstS f ts) (fun _ p => nodeS p pos)).1 h k (by omega)
      have h := h.1
      unfold tstS at h
      rw [getD_eq hk] at h
      simp only [Bool.and_eq_true, Bool.not_eq_true'] at h
      exact ⟨h.1.1.1, h.1.1.2⟩
    unfold termsI
    simp only [eF, eT, eP]
    cases hd : dec (TOk ts)
    · rw [if_neg (by simp)]
      simp only [Bool.false_eq_true, if_false, false_iff, false_implies, and_true]
      rintro ⟨h1, _⟩
      simp only [Bool.and_eq_true, decide_eq_true_eq] at h1
      exact dec_no.1 hd (hTS h1.1.1 h1.2)
    · have hT : TOk ts := dec_iff.1 hd
      rw [if_pos rfl, ← hse]
      cases hst : strongE f pos
      · simp only [Bool.false_eq_true, if_false, Bool.not_false, Bool.true_or, Bool.and_true, List.nil_append]
        by_cases hl : ps.length = ts.length
        · have hl' : ts.length = ps.length := hl.symm
          rw [show decide (ps.length = ts.length) = true by simp [hl], show decide (ts.length = ps.length) = true by simp [hl'], if_pos rfl, Bool.true_and]
          exact core hT hl' E hE
        · rw [show decide (ps.length = ts.length) = false by simp [hl], show decide (ts.length = ps.length) = false by simp; omega]
          simp
      · simp only [if_true, Bool.not_true, Bool.false_or]
        have hbad : ts.length ≠ 1 → ∀ X : Prop, ¬ ((decide (ts.length = ps.length) && (decide (ts.length = 1) && varOk (ts.getD 0 Tm.zero).name) && (ps.mapIdx fun i p => (tstS f ts i p && nodeS p pos)).all id) = true ∧ X) := fun h X hh => by
          have := hh.1
          simp only [Bool.and_eq_true, decide_eq_true_eq] at this
          exact h this.1.2.1
        match ts, hT, core, hbad with
        | [], _, _, hbad => exact ⟨⟨fun h => (by cases h), fun h => absurd h (hbad (by simp) _)⟩, fun h => (by cases h)⟩
        | _ :: _ :: _, _, _, hbad => exact ⟨⟨fun h => (by cases h), fun h => absurd h (hbad (by simp) _)⟩, fun h => (by cases h)⟩
        | [t], hT, core, _ =>
          have e0 : ([t].getD 0 Tm.zero) = t := rfl
          simp only [e0, List.length_singleton, decide_true, Bool.true_and]
          cases hv : varOk t.name
          · simp only [Bool.false_and, Bool.false_eq_true, if_false, Bool.and_false, false_and, iff_false, not_false_eq_true, false_implies, and_self]
          · cases hcn : E.contains t.name
            · have hn : t.name ∉ E := fun hm => by rw [List.contains_iff_mem.2 hm] at hcn; cases hcn
              have hE1 : (E ++ [t.name]).Nodup := by
                rw [List.nodup_append]
                refine ⟨hE, by simp, ?_⟩
                rintro a ha b hb rfl
                rw [List.mem_singleton] at hb
                subst hb; exact hn ha
              by_cases hl : ps.length = 1
              · simp only [Bool.true_and, Bool.not_false, if_true, hl, decide_true, Bool.and_true]
                have := core hT hl.symm (E ++ [t.name]) hE1
                rw [List.append_assoc] at this
                exact this
              · have hl2 : ¬ 1 = ps.length := fun h => hl h.symm
                simp only [Bool.true_and, Bool.not_false, if_true, hl, hl2, decide_false, Bool.false_eq_true, if_false, Bool.false_and, false_and, iff_false, not_false_eq_true, false_implies, and_self]
            · simp only [Bool.not_true, Bool.and_false, Bool.false_eq_true, if_false, false_iff, false_implies, and_true]
              rintro ⟨_, h⟩
              have hm : t.name ∈ E := List.contains_iff_mem.1 hcn
              have := (List.nodup_append.1 h).2.2 _ hm t.name (by simp)
              exact this rfl
theorem exp_spec (e : Ex) (pos : Bool) : expOk e pos = specOk e pos := by
  unfold expOk specOk
  cases hg : e.form.good
  · simp
  · obtain ⟨h1, h2⟩ := node_spec e hg pos [] List.nodup_nil
    rw [List.nil_append] at h1 h2
    cases hn : decide (e.nodes ≤ 60)
    · simp
    · simp only [Bool.true_and]
      rw [Bool.eq_iff_iff, Bool.and_eq_true, Bool.and_eq_true, h1, dec_iff]
      constructor
      · rintro ⟨⟨a, b⟩, c⟩
        refine ⟨a, b, fun n hn hm => ?_⟩
        rw [h2 (h1.2 ⟨a, b⟩), Bool.not_eq_true', List.any_eq_false] at c
        exact c n hn (List.contains_iff_mem.2 hm)
      · rintro ⟨a, b, c⟩
        refine ⟨⟨a, b⟩, ?_⟩
        rw [h2 (h1.2 ⟨a, b⟩), Bool.not_eq_true', List.any_eq_false]
        exact fun n hn hm => c n hn (List.contains_iff_mem.1 hm)
end Go.Proofs.YtaapffgcnndinaaGreat
namespace Go.Proofs.YtaapffgcnndinaaGreat
set_option linter.unusedSimpArgs false
set_option linter.unusedVariables false
set_option linter.unusedSectionVars false
set_option maxRecDepth 4000
open Go.RowKit
theorem specIsValidExpansion_c (e : Ex) (he : e.wt ≤ 1048576) (pos : Bool) : FC Tryz.prog 5 [exD e, bD pos] [bD (specOk e pos)] := by
  have HC := l17Good_c e he pos
  simp only [exD, exC_eq e] at HC ⊢
  refine FC_of Tryz.call5 Tryz.func5 rfl (by kernel_rfl) (by simp only [rd, List.map_cons, List.map_nil, List.length_cons, List.length_nil, Tryz.ntmps5]; omega) ?_
  simp -implicitDefEqProofs only [go_sem, Tryz.results5]
  refine callF (HC) (by simp -implicitDefEqProofs only [go_sem]) ?_
  simp -implicitDefEqProofs only [go_sem]
theorem lawIsValidExpansion_c (e : Ex) (pos : Bool) : FC Tryz.prog 3 [exD e, bD pos] [bD true] := by
  have HZ := szExpansion_c e 1048576 (by omega) (by omega)
  simp only [exD, exC_eq e] at HZ ⊢
  refine FC_ofN Tryz.call3 Tryz.func3 rfl (by kernel_rfl) (by simp only [rd, List.map_cons, List.map_nil, List.length_cons, List.length_nil, Tryz.ntmps3]; omega) ?_
  simp -implicitDefEqProofs only [go_sem, Tryz.results3]
  refine callF (HZ) (by simp -implicitDefEqProofs only [go_sem]) ?_
  simp -implicitDefEqProofs only [go_sem]
  refine ⟨fun h => trivial, fun h => ?_⟩
  have hw : e.wt ≤ 1048576 := by have := (szR_pos (by simpa using h)).1; omega
  have HS := specIsValidExpansion_c e hw pos
  have HI := isValidExpansion_c e hw pos
  have HT := toExpansion_c e hw
  have HE := eqExpansion_c e e
  rw [exp_spec] at HI
  simp only [exD, exC_eq e] at HS HI HT HE
  refine callF (HT) (by simp -implicitDefEqProofs only [go_sem]) ?_
  simp -implicitDefEqProofs only [go_sem]
  refine callF (HS) (by simp -implicitDefEqProofs only [go_sem]) ?_
  simp -implicitDefEqProofs only [go_sem]
  refine callF (HT) (by simp -implicitDefEqProofs only [go_sem]) ?_
  simp -implicitDefEqProofs only [go_sem]
  refine callF (HI) (by simp -implicitDefEqProofs only [go_sem]) ?_
  simp -implicitDefEqProofs only [go_sem]
  refine ⟨fun h => by simp at h, fun _ => ?_⟩
  refine drawn (by kernel_rfl) ?_
  simp -implicitDefEqProofs only [go_sem]
  refine dCallF (HT) (by simp -implicitDefEqProofs only [go_sem]) ?_
  simp -implicitDefEqProofs only [go_sem]
  refine dCallF (HE) (by simp -implicitDefEqProofs only [go_sem]) ?_
  simp -implicitDefEqProofs only [go_sem]
  refine ⟨by kernel_rfl, fun h => ?_, fun _ => ?_⟩
  · simp [same_self] at h
  · trivial
end Go.Proofs.YtaapffgcnndinaaGreat
namespace Go.Proofs.YtaapffgcnndinaaGreat
set_option linter.unusedSimpArgs false
set_option linter.unusedVariables false
set_option linter.unusedSectionVars false
set_option maxRecDepth 4000
open Go.RowKit

/-- A plain datum as a tree. -/
inductive PD where
  | int (n : Int)
  | bool (b : Bool)
  | str (s : List UInt8)
  | sl (sz : Nat) (xs : List PD)
  | st (fs : List PD)
mutual
/-- Its cells. -/
def PD.cells : PD → List T
  | .int n => [.int .i64 n]
  | .bool b => [.bool b]
  | .str s => [.str s]
  | .sl sz xs => [.sl sz (PD.rows xs)]
  | .st fs => PD.flat fs
def PD.rows : List PD → List (List T)
  | [] => []
  | x :: xs => x.cells :: PD.rows xs
def PD.flat : List PD → List T
  | [] => []
  | x :: xs => x.cells ++ PD.flat xs
end
theorem PD.rows_map (xs : List PD) : PD.rows xs = xs.map PD.cells := by
  induction xs with
  | nil => rfl
  | cons x xs ih => rw [PD.rows, ih]; rfl
theorem repAll_append {w : World} {A : Nat → Prop} : ∀ {t1 t2 : List T} {v1 v2 : List Value}, RepAll w A t1 v1 → RepAll w A t2 v2 → RepAll w A (t1 ++ t2) (v1 ++ v2)
  | [], _, v1, _, h, k => by unfold RepAll at h; subst h; exact k
  | t :: ts, _, v1, _, h, k => by
    unfold RepAll at h
    obtain ⟨v, vs', rfl, h1, h2⟩ := h
    rw [List.cons_append, List.cons_append]
    unfold RepAll
    exact ⟨v, _, rfl, h1, repAll_append h2 k⟩
theorem repAll_one {w : World} {A : Nat → Prop} {t : T} {v : Value} (h : RepV w A t v) : RepAll w A [t] [v] := by
  unfold RepAll
  exact ⟨v, [], rfl, h, by unfold RepAll; rfl⟩
/-- The fields lie one behind the other, from offset o to n, their types among ok. -/
def fieldsOk (P : Program) (ok : TypeId → Bool) : List Field → Nat → Nat → Bool
  | [], o, n => o == n
  | f :: fs, o, n => f.offset == o && ok f.type && fieldsOk P ok fs (o + P.cellsOf f.type) n
/-- A type of plain data: int, bool, string, slice, struct. -/
def typeOk (P : Program) (ok : TypeId → Bool) (t : TypeId) : Bool :=
  match P.underlying t with
  | some (.int k) => k == .i64
  | some .bool | some .string => true
  | some (.slice e) => ok e && decide (0 < P.cellsOf e)
  | some (.struct fs) => fieldsOk P ok fs.toList 0 (P.cellsOf t)
  | _ => false

mutual
/-- The datum is of the type. -/
def Shape (P : Program) : TypeId → PD → Prop
  | t, .int _ => P.underlying t = some (.int .i64)
  | t, .bool _ => P.underlying t = some .bool
  | t, .str _ => P.underlying t = some .string
  | t, .sl sz xs => ∃ e, P.underlying t = some (.slice e) ∧ sz = P.cellsOf e ∧ ShapeL P e xs
  | t, .st fs => ∃ fl, P.underlying t = some (.struct fl) ∧ ShapeF P (fl.toList.map (·.type)) fs
def ShapeL (P : Program) : TypeId → List PD → Prop
  | _, [] => True
  | e, x :: xs => Shape P e x ∧ ShapeL P e xs
def ShapeF (P : Program) : List TypeId → List PD → Prop
  | ts, [] => ts = []
  | ts, x :: xs => ∃ t ts', ts = t :: ts' ∧ Shape P t x ∧ ShapeF P ts' xs
end

theorem ShapeL.of_mem {P : Program} {e : TypeId} : ∀ {xs : List PD}, (∀ x ∈ xs, Shape P e x) → ShapeL P e xs
  | [], _ => by simp [ShapeL]
  | x :: xs, h => by rw [ShapeL]; exact ⟨h x (by simp), ShapeL.of_mem fun y hy => h y (by simp [hy])⟩
theorem ShapeL.mem {P : Program} {e : TypeId} : ∀ {xs : List PD}, ShapeL P e xs → ∀ x ∈ xs, Shape P e x
  | [], _, x, hx => by simp at hx
  | y :: xs, h, x, hx => by
    rw [ShapeL] at h
    rcases List.mem_cons.1 hx with rfl | hx
    · exact h.1
    · exact ShapeL.mem h.2 x hx

theorem build_list {α : Type} (n : Nat) (p : Nat → α → Prop) (h : ∀ i, i < n → ∃ a, p i a) : ∃ l : List α, l.length = n ∧ ∀ i (hi : i < l.length), p i l[i] := by
  induction n with
  | zero => exact ⟨[], rfl, fun i hi => by simp at hi⟩
  | succ n ih =>
    obtain ⟨l, h1, h2⟩ := ih fun i hi => h i (by omega)
    obtain ⟨a, ha⟩ := h n (by omega)
    refine ⟨l ++ [a], by simp [h1], fun i hi => ?_⟩
    rcases Nat.lt_or_ge i l.length with hl | hl
    · rw [List.getElem_append_left hl]; exact h2 i hl
    · have : i = n := by simp at hi; omega
      subst this
      rw [List.getElem_append_right (by omega)]
      simpa [h1] using ha

section
variable {H : Type} {enc : TypeId × Value → H} {P : Program} {w : World} {ok : TypeId → Bool}

theorem rep_fields {n : Nat} (ih : ∀ t cs x, ok t = true → DataW.trod enc P w 0 (fun _ => true) true n t cs = some x → ∃ d : PD, RepAll w (· < w.heap.size) d.cells cs ∧ Shape P t d) : ∀ (fs : List Field) (o m : Nat) (cs : List Value), fieldsOk P ok fs o m = true → cs.length = m →
    (∀ f ∈ fs, ∃ x, DataW.trod enc P w 0 (fun _ => true) true n f.type ((cs.drop f.offset).take (P.cellsOf f.type)) = some x) → ∃ ds : List PD, RepAll w (· < w.heap.size) (PD.flat ds) (cs.drop o) ∧ ShapeF P (fs.map (·.type)) ds
  | [], o, m, cs, h, hl, _ => by
    rw [fieldsOk, beq_iff_eq] at h
    exact ⟨[], by rw [PD.flat, List.drop_of_length_le (by omega)]; unfold RepAll; rfl, by rw [List.map_nil, ShapeF]⟩
  | f :: fs, o, m, cs, h, hl, hx => by
    rw [fieldsOk, Bool.and_eq_true, Bool.and_eq_true, beq_iff_eq] at h
    obtain ⟨⟨h1, h2⟩, h3⟩ := h
    obtain ⟨x, hx0⟩ := hx f (by simp)
    obtain ⟨d, hd1, hd2⟩ := ih _ _ _ h2 hx0
    obtain ⟨ds, hs1, hs2⟩ := rep_fields ih fs _ m cs h3 hl fun g hg => hx g (by simp [hg])
    refine ⟨d :: ds, ?_, ?_⟩
    · rw [PD.flat]
      have := repAll_append hd1 hs1
      rw [h1, ← List.drop_drop, List.take_append_drop] at this
      exact this
    · rw [List.map_cons, ShapeF]
      exact ⟨_, _, rfl, hd2, hs2⟩

/-- An argument's reading by the row is a reading of a plain tree. -/
theorem rep_of_trod (hclosed : ∀ t, ok t = true → typeOk P ok t = true) : ∀ (fuel : Nat) (t : TypeId) (cs : List Value) (x : DataW H × List MemPlace), ok t = true → DataW.trod enc P w 0 (fun _ => true) true fuel t cs = some x →
    ∃ d : PD, RepAll w (· < w.heap.size) d.cells cs ∧ Shape P t d := by
  intro fuel
  induction fuel with
  | zero => intro t cs x _ h; simp [DataW.trod] at h
  | succ n ih =>
    intro t cs x hok h
    have ht := hclosed t hok
    unfold typeOk at ht
    split at ht
    · rename_i k hu
      have hk : k = .i64 := by simpa using ht
      subst hk
      obtain ⟨z, rfl, rfl, hw⟩ := DataW.trod_int hu h
      refine ⟨.int z, ?_, ?_⟩
      · rw [PD.cells]
        refine repAll_one ?_
        unfold RepV
        simp [Lit.wf, IntKind.min, IntKind.max, IntKind.bits, IntKind.signed] at hw
        have m1 : IntKind.min .i64 = -9223372036854775808 := by decide
        have m2 : IntKind.max .i64 = 9223372036854775807 := by decide
        exact ⟨rfl, by omega, by omega⟩
      · rw [Shape]; exact hu
    · rename_i hu
      obtain ⟨b, rfl, rfl⟩ := DataW.trod_bool hu h
      exact ⟨.bool b, by rw [PD.cells]; exact repAll_one (by unfold RepV; rfl), by rw [Shape]; exact hu⟩
    · rename_i hu
      obtain ⟨s, rfl, rfl, hs⟩ := DataW.trod_string hu h
      unfold maxLen at hs
      have hz : s.data.toList.length = s.size := by rw [Array.length_toList]; rfl
      refine ⟨.str s.data.toList, ?_, by rw [Shape]; exact hu⟩
      rw [PD.cells]
      refine repAll_one ?_
      unfold RepV
      exact ⟨rfl, by rw [hz]; omega⟩
    · rename_i e hu
      rw [Bool.and_eq_true, decide_eq_true_eq] at ht
      obtain ⟨he, hc⟩ := ht
      rcases DataW.trod_slice hu h with ⟨rfl, _⟩ | ⟨a, len, cap, elems, rest, m, hm, rfl, _, _, hl, hcap, hel, hat, _⟩
      · refine ⟨.sl (P.cellsOf e) [], ?_, ?_⟩
        · rw [PD.cells, PD.rows]
          refine repAll_one ?_
          unfold RepV
          exact ⟨none, 0, rfl, Nat.le_refl _, by omega, Or.inl rfl⟩
        · rw [Shape]; exact ⟨e, hu, rfl, by rw [ShapeL]; trivial⟩
      · obtain rfl : n = m := by omega
        unfold maxLen at hcap
        have hone : ∀ i, i < len → ∃ p : PD × List Value, p.2.length = P.cellsOf e ∧ (∀ j, j < P.cellsOf e → w.cell? ((a.add (i * P.cellsOf e)).add j) = p.2[j]?) ∧ RepAll w (· < w.heap.size) p.1.cells p.2 ∧ Shape P e p.1 := by
          intro i hi
          have h1 := hat i hi
          rw [List.getElem?_eq_getElem (by omega)] at h1
          obtain ⟨cs', hc1, hc2⟩ := Option.bind_eq_some_iff.1 h1
          obtain ⟨_, hlen, hcell⟩ := World.cells?_some hc1
          obtain ⟨d, hd1, hd2⟩ := ih e cs' _ he hc2
          exact ⟨(d, cs'), hlen, hcell, hd1, hd2⟩
        obtain ⟨l, hl1, hl2⟩ := build_list len _ hone
        refine ⟨.sl (P.cellsOf e) (l.map (·.1)), ?_, ?_⟩
        · rw [PD.cells, PD.rows_map]
          refine repAll_one ?_
          unfold RepV
          refine ⟨some a, cap, by simp [hl1], by simp; omega, by omega, ?_⟩
          by_cases hz : len = 0
          · left; rw [List.eq_nil_of_length_eq_zero (by omega : l.length = 0)]; rfl
          · right
            have h0 := hl2 0 (by omega)
            have hcell0 := h0.2.1 0 hc
            rw [List.getElem?_eq_getElem (by rw [h0.1]; exact hc)] at hcell0
            simp only [Nat.zero_mul, Addr.add, if_true] at hcell0
            have hsp : a.spot = none ∧ a.block < w.heap.size := by
              unfold World.cell? at hcell0
              split at hcell0
              · rename_i hb
                refine ⟨?_, (Array.getElem?_eq_some_iff.1 hb).1⟩
                cases hs : a.spot with
                | none => rfl
                | some s => simp [hs] at hcell0
              · cases hcell0
            obtain ⟨b, o, sp⟩ := a
            simp only at hsp
            obtain ⟨rfl, hlt⟩ := hsp
            refine ⟨b, o, rfl, hlt, RepRows.mk fun i r hi => ?_⟩
            simp only [List.getElem?_map, Option.map_eq_some_iff] at hi
            obtain ⟨y, ⟨p, hp, rfl⟩, rfl⟩ := hi
            obtain ⟨hi', rfl⟩ := List.getElem?_eq_some_iff.1 hp
            have h1 := hl2 i hi'
            refine ⟨h1.2.2.1.len ▸ h1.1, RepAt.mk fun j c hj => ?_⟩
            obtain ⟨v, hv1, hv2⟩ := h1.2.2.1.at j c hj
            refine ⟨v, ?_, hv2⟩
            have hjj : j < P.cellsOf e := by
              have := (List.getElem?_eq_some_iff.1 hv1).1
              rw [h1.1] at this; exact this
            rw [← hv1, ← h1.2.1 j hjj]
            congr 1
            simp only [Addr.add]
            split <;> split <;> simp_all [Nat.add_assoc]
        · rw [Shape]
          refine ⟨e, hu, rfl, ShapeL.of_mem fun x hx => ?_⟩
          obtain ⟨y, hy, rfl⟩ := List.mem_map.1 hx
          obtain ⟨i, hi, rfl⟩ := List.mem_iff_getElem.1 hy
          exact (hl2 i hi).2.2.2
    · rename_i fs hu
      obtain ⟨xs, m, hm, _, hlen, hxs, hf⟩ := DataW.trod_struct hu h
      obtain rfl : n = m := by omega
      obtain ⟨ds, h1, h2⟩ := rep_fields ih fs.toList 0 (P.cellsOf t) cs ht hlen fun f hfm => by
        obtain ⟨i, hi, rfl⟩ := List.mem_iff_getElem.1 hfm
        have := hf i fs[i] (by simp at hi; simp [hi])
        refine ⟨xs[i]'(by simp at hi; omega), ?_⟩
        rw [List.getElem?_eq_getElem (by simp at hi; omega)] at this
        simpa using this
      refine ⟨.st ds, ?_, ?_⟩
      · rw [PD.cells]; simpa using h1
      · rw [Shape]; exact ⟨fs, hu, by simpa using h2⟩
    · cases ht
end

theorem Shape.int {P : Program} {t : TypeId} {d : PD} (h : Shape P t d) (hu : P.underlying t = some (.int .i64)) : ∃ n, d = .int n := by
  cases d with
  | int n => exact ⟨n, rfl⟩
  | bool b => rw [Shape, hu] at h; cases h
  | str s => rw [Shape, hu] at h; cases h
  | sl sz xs => rw [Shape] at h; obtain ⟨e, h1, _⟩ := h; rw [hu] at h1; cases h1
  | st fs => rw [Shape] at h; obtain ⟨e, h1, _⟩ := h; rw [hu] at h1; cases h1
theorem Shape.str {P : Program} {t : TypeId} {d : PD} (h : Shape P t d) (hu : P.underlying t = some .string) : ∃ n, d = .str n := by
  cases d with
  | int n => rw [Shape, hu] at h; cases h
  | bool b => rw [Shape, hu] at h; cases h
  | str s => exact ⟨s, rfl⟩
  | sl sz xs => rw [Shape] at h; obtain ⟨e, h1, _⟩ := h; rw [hu] at h1; cases h1
  | st fs => rw [Shape] at h; obtain ⟨e, h1, _⟩ := h; rw [hu] at h1; cases h1
theorem Shape.sl {P : Program} {t e : TypeId} {d : PD} (h : Shape P t d) (hu : P.underlying t = some (.slice e)) : ∃ xs, d = .sl (P.cellsOf e) xs ∧ ∀ x ∈ xs, Shape P e x := by
  cases d with
  | int n => rw [Shape, hu] at h; cases h
  | bool b => rw [Shape, hu] at h; cases h
  | str s => rw [Shape, hu] at h; cases h
  | sl sz xs =>
    rw [Shape] at h
    obtain ⟨e', h1, h2, h3⟩ := h
    rw [hu] at h1
    cases h1
    exact ⟨xs, by rw [h2], h3.mem⟩
  | st fs => rw [Shape] at h; obtain ⟨e, h1, _⟩ := h; rw [hu] at h1; cases h1
theorem Shape.st {P : Program} {t : TypeId} {fl : Array Field} {d : PD} (h : Shape P t d) (hu : P.underlying t = some (.struct fl)) : ∃ fs, d = .st fs ∧ ShapeF P (fl.toList.map (·.type)) fs := by
  cases d with
  | int n => rw [Shape, hu] at h; cases h
  | bool b => rw [Shape, hu] at h; cases h
  | str s => rw [Shape, hu] at h; cases h
  | sl sz xs => rw [Shape] at h; obtain ⟨e, h1, _⟩ := h; rw [hu] at h1; cases h1
  | st fs => rw [Shape] at h; obtain ⟨e, h1, h2⟩ := h; rw [hu] at h1; cases h1; exact ⟨fs, rfl, h2⟩

end Go.Proofs.YtaapffgcnndinaaGreat
namespace Go.Proofs.YtaapffgcnndinaaGreat
set_option linter.unusedSimpArgs false
set_option linter.unusedVariables false
set_option linter.unusedSectionVars false
set_option maxRecDepth 4000
open Go.RowKit
theorem ShapeF.cons {P : Program} {t : TypeId} {ts : List TypeId} {xs : List PD} (h : ShapeF P (t :: ts) xs) : ∃ x xs', xs = x :: xs' ∧ Shape P t x ∧ ShapeF P ts xs' := by
  cases xs with
  | nil => rw [ShapeF] at h; cases h
  | cons x xs =>
    rw [ShapeF] at h
    obtain ⟨t', ts', e, h1, h2⟩ := h
    cases e
    exact ⟨x, xs, rfl, h1, h2⟩
theorem ShapeF.nil {P : Program} {xs : List PD} (h : ShapeF P [] xs) : xs = [] := by
  cases xs with
  | nil => rfl
  | cons x xs =>
    rw [ShapeF] at h
    obtain ⟨t', ts', e, _⟩ := h
    cases e
theorem pd_strong {Q : PD → Prop} (h : ∀ d, (∀ d', SizeOf.sizeOf d' < SizeOf.sizeOf d → Q d') → Q d) (d : PD) : Q d := by
  have : ∀ n (d : PD), SizeOf.sizeOf d < n → Q d := by
    intro n
    induction n with
    | zero => intro d hd; omega
    | succ n ih => intro d hd; exact h d fun d' hd' => ih d' (by omega)
  exact this _ d (Nat.lt_succ_self _)
theorem list_cells {α : Type} (c : α → List T) : ∀ (xs : List PD), (∀ x ∈ xs, ∃ a, x.cells = c a) → ∃ l : List α, PD.rows xs = l.map c
  | [], _ => ⟨[], rfl⟩
  | x :: xs, h => by
    obtain ⟨a, ha⟩ := h x (by simp)
    obtain ⟨l, hl⟩ := list_cells c xs fun y hy => h y (by simp [hy])
    exact ⟨a :: l, by rw [PD.rows, ha, hl]; rfl⟩
theorem sh_term : ∀ d, Shape Tryz.prog 24 d → ∃ a : Tm, d.cells = tmC a :=
  pd_strong fun d ih h => by
    obtain ⟨fs, rfl, hf⟩ := h.st Tryz.underlying24
    have hf : ShapeF Tryz.prog [9, 22] fs := hf
    obtain ⟨x1, r1, rfl, h1, hf⟩ := hf.cons
    obtain ⟨x2, r2, rfl, h2, hf⟩ := hf.cons
    obtain rfl := hf.nil
    obtain ⟨n, rfl⟩ := h1.str Tryz.underlying9
    obtain ⟨xs, rfl, hx⟩ := h2.sl Tryz.underlying22
    obtain ⟨l, hl⟩ := list_cells tmC xs fun x hx' => ih x (by have := List.sizeOf_lt_of_mem hx'; simp; omega) (hx x hx')
    exact ⟨.mk n l, by
      rw [tmC_eq, PD.cells, PD.flat, PD.flat, PD.flat, PD.cells, PD.cells, hl, show Tryz.prog.cellsOf 24 = 2 from by kernel_rfl]; rfl⟩
theorem sh_terms {d : PD} (h : Shape Tryz.prog 22 d) : ∃ l : List Tm, d.cells = [tmS l] := by
  obtain ⟨xs, rfl, hx⟩ := h.sl Tryz.underlying22
  obtain ⟨l, hl⟩ := list_cells tmC xs fun x hx' => sh_term x (hx x hx')
  exact ⟨l, by rw [PD.cells, hl, show Tryz.prog.cellsOf 24 = 2 from by kernel_rfl]⟩
theorem sh_formula : ∀ d, Shape Tryz.prog 27 d → ∃ a : Fm, d.cells = fmC a :=
  pd_strong fun d ih h => by
    obtain ⟨fs, rfl, hf⟩ := h.st Tryz.underlying27
    have hf : ShapeF Tryz.prog [3, 24, 9, 25] fs := hf
    obtain ⟨x1, r1, rfl, h1, hf⟩ := hf.cons
    obtain ⟨x2, r2, rfl, h2, hf⟩ := hf.cons
    obtain ⟨x3, r3, rfl, h3, hf⟩ := hf.cons
    obtain ⟨x4, r4, rfl, h4, hf⟩ := hf.cons
    obtain rfl := hf.nil
    obtain ⟨o, rfl⟩ := h1.int Tryz.underlying3
    obtain ⟨a, ha⟩ := sh_term _ h2
    obtain ⟨v, rfl⟩ := h3.str Tryz.underlying9
    obtain ⟨xs, rfl, hx⟩ := h4.sl Tryz.underlying25
    obtain ⟨l, hl⟩ := list_cells fmC xs fun x hx' => ih x (by have := List.sizeOf_lt_of_mem hx'; simp; omega) (hx x hx')
    exact ⟨.mk o a v l, by
      rw [fmC_eq, PD.cells, PD.flat, PD.flat, PD.flat, PD.flat, PD.flat, PD.cells, PD.cells, PD.cells, hl, ha, tmC_eq, show Tryz.prog.cellsOf 27 = 5 from by kernel_rfl]; rfl⟩
end Go.Proofs.YtaapffgcnndinaaGreat
namespace Go.Proofs.YtaapffgcnndinaaGreat
set_option linter.unusedSimpArgs false
set_option linter.unusedVariables false
set_option linter.unusedSectionVars false
set_option maxRecDepth 4000
open Go.RowKit
theorem sh_expansion : ∀ d, Shape Tryz.prog 30 d → ∃ a : Ex, d.cells = exC a :=
  pd_strong fun d ih h => by
    obtain ⟨fs, rfl, hf⟩ := h.st Tryz.underlying30
    have hf : ShapeF Tryz.prog [27, 22, 28] fs := hf
    obtain ⟨x1, r1, rfl, h1, hf⟩ := hf.cons
    obtain ⟨x2, r2, rfl, h2, hf⟩ := hf.cons
    obtain ⟨x3, r3, rfl, h3, hf⟩ := hf.cons
    obtain rfl := hf.nil
    obtain ⟨a, ha⟩ := sh_formula _ h1
    obtain ⟨ts, hts⟩ := sh_terms h2
    obtain ⟨xs, rfl, hx⟩ := h3.sl Tryz.underlying28
    obtain ⟨l, hl⟩ := list_cells exC xs fun x hx' => ih x (by have := List.sizeOf_lt_of_mem hx'; simp; omega) (hx x hx')
    exact ⟨.mk a ts l, by
      rw [exC_eq, PD.cells, PD.flat, PD.flat, PD.flat, PD.flat, PD.cells, hl, ha, hts, fmC_eq, show Tryz.prog.cellsOf 30 = 7 from by kernel_rfl]; rfl⟩
end Go.Proofs.YtaapffgcnndinaaGreat
namespace Go.Proofs.YtaapffgcnndinaaGreat
set_option linter.unusedSimpArgs false
set_option linter.unusedVariables false
set_option linter.unusedSectionVars false
set_option maxRecDepth 4000
open Go.ChangeShapes Go.WideShapes Go.ChangeAt Go.RowKit
theorem risva_own : ownKnob Tryz.prog.godebug = none := by kernel_rfl
theorem risva_laidOut : laidOutB Tryz.prog = true := by kernel_rfl
def risvaTypes (t : TypeId) : Bool := t == 3 || t == 9 || t == 24 || t == 22 || t == 27 || t == 25 || t == 30 || t == 28 || t == 4
theorem risvaTypes_ok : ∀ t, risvaTypes t = true → typeOk Tryz.prog risvaTypes t = true := by
  intro t h
  simp only [risvaTypes, Bool.or_eq_true, beq_iff_eq] at h
  rcases h with (((((((rfl | rfl) | rfl) | rfl) | rfl) | rfl) | rfl) | rfl) | rfl <;> kernel_rfl
set_option maxRecDepth 100000 in
theorem risva_lifted (os : Os) (started : os.Started) (H : Type) (enc : TypeId × Value → H) :
    ReturnsInHanded {} Tryz.checked os 3 .any (Rows.fnExactIsValidExpansionSpec.pre6 enc Tryz.prog Tryz.f3 Rows.fnExactIsValidExpansionRow.domain false)
      (Rows.fnExactIsValidExpansionSpec.post enc Tryz.prog Tryz.f3 false true false false) := by
  refine returnsInHanded_of_change (C := Tryz.checked) risva_own started (by kernel_rfl) Tryz.func3
    (ChangeSpec.witness6 (enc := enc) (C := Tryz.checked) false ⟨#[], #[.agg #[.int .i64 0, .string .empty, .slice none 0 0, .string .empty, .slice none 0 0, .slice none 0 0, .slice none 0 0], .bool false], []⟩ 8 (by kernel_rfl) (by kernel_rfl) (by kernel_rfl) (by kernel_rfl)) ?_
  intro W base args ds gs before hval0 hW hcnd _
  have hval : ∀ (j : Nat) t v, Tryz.f3.params[j]? = some t → args[j]? = some v → Value.okWide Tryz.prog W .any base t v := hval0
  have hW' := hW
  obtain ⟨p, q, hA0, hV, rfl, hfz, hnd⟩ := hW
  have hA : DataW.TrodAll enc Tryz.prog W 0 (fun _ => true) true Tryz.f3.params.toList args.toList ds p := hA0
  rw [Tryz.params3] at hA hval
  obtain ⟨v0, vs0, d0, ds0, p0, q0, hargs, rfl, rfl, h0, r0⟩ := trodAll_cons hA
  obtain ⟨v1, vs1, d1, ds1, p1, q1, rfl, rfl, rfl, h1, r1⟩ := trodAll_cons r0
  obtain ⟨rfl, rfl, rfl⟩ := trodAll_nil r1
  obtain rfl : args = #[v0, v1] := by cases args; simp_all
  obtain ⟨rfl, rfl⟩ := trodVars_none hV
  have k0 := h0
  have k1 := h1
  have lt0 : ∀ x ∈ p0, x.block < W.heap.size := by obtain ⟨m, hm⟩ := k0; exact DataW.trod_lt m _ _ _ hm
  have lt1 : ∀ x ∈ p1, x.block < W.heap.size := by obtain ⟨m, hm⟩ := k1; exact DataW.trod_lt m _ _ _ hm
  obtain ⟨cs0, rfl, _⟩ := okWide_struct Tryz.underlying30 (hval 0 30 v0 rfl rfl)
  obtain ⟨s1, rfl⟩ := okWide_bool Tryz.underlying4 (hval 1 4 v1 rfl rfl)
  obtain ⟨s0, hs0⟩ : ∃ s : Ex, RepD W (· < W.heap.size) (exD s) (.agg cs0) := by
    obtain ⟨m, hm⟩ := h0
    obtain ⟨d, hr, hs⟩ := rep_of_trod risvaTypes_ok m _ _ _ (by rfl) hm
    obtain ⟨s, e⟩ := sh_expansion _ hs
    exact ⟨s, cs0.toList, rfl, e ▸ hr⟩
  have hs1 : RepD W (· < W.heap.size) (bD s1) (.bool s1) := rfl
  have hs : RepDs W (· < W.heap.size) [exD s0, bD s1] [.agg cs0, .bool s1] := ⟨_, _, rfl, hs0, _, _, rfl, hs1, rfl⟩
  clear hA0 hval0
  refine ((lawIsValidExpansion_c s0 s1).use (vs := [.agg cs0, .bool s1]) hs).mono fun e W' ⟨us, fp, he, ho, _, _, bel⟩ => ?_
  obtain ⟨u, us', f1, f2, rfl, _, ⟨rfl, _⟩, hu⟩ := ho
  obtain ⟨rfl, _⟩ := hu
  subst he
  exact ⟨_, rfl, _, _, _, [], _, [], hW', trodAll_mk1 (shut_bool Tryz.underlying4 _),
    (trodAll_cons_mk (Below.trod risva_laidOut (by kernel_rfl) (of_decide_eq_true (by kernel_rfl)) k0 bel lt0) (trodAll_cons_mk (Below.trod risva_laidOut (by kernel_rfl) (of_decide_eq_true (by kernel_rfl)) k1 bel lt1) trodAll_mk0)), rfl, bel.frame _, fun h => by cases h⟩
theorem risva_h0 : (Rows.fnExactIsValidExpansionRow.wf (OpenSpec.ofChange Rows.fnExactIsValidExpansionSpec)) = true := by kernel_rfl
theorem risva_h1 : (laidOutB Tryz.checked.prog) = true := by kernel_rfl
theorem risva_h2 : (mapsRowed Tryz.checked.prog) = true := by kernel_rfl
theorem risva_h3 : (Tryz.f3.params.all (Tryz.checked.prog.readableRec ·)) = true := by kernel_rfl
theorem risva_h4 : (namedTie Tryz.checked.prog Rows.fnExactIsValidExpansionRow.named Rows.fnExactIsValidExpansionSpec.vars) = true := by kernel_rfl
theorem risva_h5 : ((Rows.fnExactIsValidExpansionRow.stops == [])) = true := by kernel_rfl
theorem risva_h6 : ((Tryz.checked.prog.stops == [])) = true := by kernel_rfl
theorem risva_h7 : ((Rows.fnExactIsValidExpansionRow.knobs == [])) = true := by kernel_rfl
theorem risva_h8 : ((Tryz.checked.prog.stopKnobs == [])) = true := by kernel_rfl
theorem risva_h9 : ((Rows.fnExactIsValidExpansionRow.inPlace == Tryz.checked.prog.inPlace 3)) = true := by kernel_rfl
theorem risva_h10 : ((Rows.fnExactIsValidExpansionRow.unfollowed == Tryz.checked.prog.unfollowed 3)) = true := by kernel_rfl
theorem risva_h11 : ((Rows.fnExactIsValidExpansionRow.recurses == Tryz.checked.prog.recurses 3)) = true := by kernel_rfl
theorem risva_h12 : ((Rows.fnExactIsValidExpansionRow.named == Tryz.checked.prog.varsNamed 3)) = true := by kernel_rfl
theorem risva_h13 : ((Rows.fnExactIsValidExpansionRow.maps == (Tryz.f3.params.toList ++ Rows.fnExactIsValidExpansionSpec.plain.varTypes Tryz.checked.prog).any (Tryz.checked.prog.mapsRec ·))) = true := by kernel_rfl
theorem risva_h14 : ((Rows.fnExactIsValidExpansionRow.ifaces == (Tryz.f3.params.toList ++ Rows.fnExactIsValidExpansionSpec.plain.varTypes Tryz.checked.prog).any (Tryz.checked.prog.ifacesRec ·))) = true := by kernel_rfl
theorem risva_h15 : ((Rows.fnExactIsValidExpansionRow.mapsOut == Tryz.checked.prog.mapsAmong Tryz.f3.resultTypes.toList)) = true := by kernel_rfl
theorem risva_h16 : ((Rows.fnExactIsValidExpansionRow.loops == (Tryz.f3.params.toList ++ Rows.fnExactIsValidExpansionSpec.plain.varTypes Tryz.checked.prog).any (Tryz.checked.prog.loopsFrom ·))) = true := by kernel_rfl
theorem risva_h17 : ((Rows.fnExactIsValidExpansionRow.wideKeys == (Tryz.f3.params.toList ++ Rows.fnExactIsValidExpansionSpec.plain.varTypes Tryz.checked.prog ++ Tryz.f3.resultTypes.toList).any (Tryz.checked.prog.wideKeysFrom ·))) = true := by kernel_rfl
theorem risva_h18 : (Rows.fnExactIsValidExpansionSpec.vars.all (Tryz.checked.prog.varReadable ·)) = true := by kernel_rfl
theorem risva_h19 : (Tryz.f3.resultTypes.all (fun t => Tryz.checked.prog.readableRec t && decide (t < Tryz.checked.prog.types.size))) = true := by kernel_rfl
theorem risva_h20 : ((Rows.fnExactIsValidExpansionRow.ifacesOut == Tryz.f3.resultTypes.toList.any (Tryz.checked.prog.ifacesRec ·))) = true := by kernel_rfl
theorem risva_h21 : ((Rows.fnExactIsValidExpansionRow.loopsOut == Tryz.f3.resultTypes.toList.any (Tryz.checked.prog.loopsFrom ·))) = true := by kernel_rfl
theorem risva_h22 : ((Rows.fnExactIsValidExpansionRow.plainKeys == Tryz.checked.prog.plainKeys)) = true := by kernel_rfl
theorem risva_h23 : (Rows.fnExactIsValidExpansionRow.shortTexts.isNone) = true := by kernel_rfl
theorem risva_h24 : (Tryz.checked.prog.stopsHeard) = true := by kernel_rfl
theorem risva_h25 : (Tryz.checked.prog.mayEnter) = true := by kernel_rfl
theorem risva_h26 : ((Rows.fnExactIsValidExpansionRow.lifted == Tryz.checked.prog.liftsFinal)) = true := by kernel_rfl
theorem risva_h27 : ((Tryz.checked.prog.make == some Rows.fnExactIsValidExpansionRow.make)) = true := by kernel_rfl
theorem risva_h28 : ((Rows.fnExactIsValidExpansionRow.kinds == (if Rows.fnExactIsValidExpansionRow.domain.isEmpty then [] else Tryz.f3.params.toList.map fun t => match Tryz.checked.prog.underlying t with | some (.int k) => some k | _ => none))) = true := by kernel_rfl
theorem risva_h29 : ((Rows.fnExactIsValidExpansionRow.pinned == Rows.fnExactIsValidExpansionRow.pinnedBy)) = true := by kernel_rfl
theorem risva_h30 : ((Rows.fnExactIsValidExpansionRow.veiled == (Tryz.f3.params.toList ++ Rows.fnExactIsValidExpansionSpec.plain.varTypes Tryz.checked.prog ++ Tryz.f3.resultTypes.toList).any (Tryz.checked.prog.veiledRec ·))) = true := by kernel_rfl
theorem risva_h31 : (Rows.fnExactIsValidExpansionRow.veiledFits Tryz.checked.prog Tryz.f3.params.toList (Tryz.f3.params.toList ++ Rows.fnExactIsValidExpansionSpec.plain.varTypes Tryz.checked.prog ++ Tryz.f3.resultTypes.toList)) = true := by kernel_rfl
theorem risva_closed : joinedFacts Tryz.checked.prog 3 Tryz.f3 Rows.fnExactIsValidExpansionSpec Rows.fnExactIsValidExpansionRow = true := by
  unfold joinedFacts
  simp only [Bool.and_eq_true]
  exact ⟨⟨⟨⟨⟨⟨⟨⟨⟨⟨⟨⟨⟨⟨⟨⟨⟨⟨⟨⟨⟨⟨⟨⟨⟨⟨⟨⟨⟨⟨⟨risva_h0, risva_h1⟩, risva_h2⟩, risva_h3⟩, risva_h4⟩, risva_h5⟩, risva_h6⟩, risva_h7⟩, risva_h8⟩, risva_h9⟩, risva_h10⟩, risva_h11⟩, risva_h12⟩, risva_h13⟩, risva_h14⟩, risva_h15⟩, risva_h16⟩, risva_h17⟩, risva_h18⟩, risva_h19⟩, risva_h20⟩, risva_h21⟩, risva_h22⟩, risva_h23⟩, risva_h24⟩, risva_h25⟩, risva_h26⟩, risva_h27⟩, risva_h28⟩, risva_h29⟩, risva_h30⟩, risva_h31⟩
theorem isValidExpansion_holds : Rows.FnExactIsValidExpansionSaid :=
  OpenClaim.holds_of_wide 3 Tryz.f3 rfl rfl rfl rfl rfl rfl rfl ⟨rfl, rfl, rfl, rfl, rfl⟩ rfl rfl rfl rfl rfl (by kernel_rfl) Tryz.func3 risva_closed
    (of_decide_eq_true (by kernel_rfl)) (by unfold Func.isWrapper; rw [if_neg (of_decide_eq_false (by kernel_rfl))]; exact ⟨rfl, rfl⟩)
    (fun os started H enc _ => risva_lifted os started H enc)
#print axioms isValidExpansion_holds
end Go.Proofs.YtaapffgcnndinaaGreat
