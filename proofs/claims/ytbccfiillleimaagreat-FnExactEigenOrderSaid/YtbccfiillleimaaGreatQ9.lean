/-
  FnExactEigenOrder returns true for all arguments, and its arguments read afterwards as they read before.
  Conditions: none.
-/
import Derived.Test.YtbccfiillleimaaGreatQ8
import Derived.Test.YtbccfiillleimaaGreatQ7
import Derived.Test.YtbccfiillleimaaGreatQ5
import Derived.Test.YtbccfiillleimaaGreatRows
import Derived.Test.YtbccfiillleimaaGreatQ1
import Derived.ProofKit
import Derived.OpenShut
import Derived.ShutString
import Derived.ChangeOld
namespace Go.Proofs.YtbccfiillleimaaGreat
set_option linter.unusedSimpArgs false
set_option linter.unusedVariables false
set_option linter.unusedSectionVars false
set_option maxRecDepth 4000
open Go.RowKit
theorem namesS_ne : ∀ (e : Ex) (pos : Bool), nodeS e pos = true → ∀ n ∈ namesS e pos, n ≠ [] := ex_ind fun f ts ps ih pos hn n hm => by
 have hp := (nodeS_parts hn).1
 rw [namesS_eq] at hm
 have eF : (Ex.mk f ts ps).form = f := rfl
 have eT : (Ex.mk f ts ps).terms = ts := rfl
 have eP : (Ex.mk f ts ps).parts = ps := rfl
 simp only [eF, eT, eP] at hm hp
 rcases List.mem_append.1 hm with hm | hm
 ·split at hm
  ·rename_i hs
   have hq : isQ f.op = true := by unfold strongE at hs; rw [Bool.and_eq_true] at hs; exact hs.1
   rw [nodeS_eq, eF, hq, if_pos rfl, hs] at hn
   simp only [eT, Bool.and_eq_true, Bool.not_true, Bool.false_or] at hn
   rw [List.mem_singleton] at hm
   rintro rfl
   have h := hn.1.2.2
   rw [← hm] at h
   exact absurd h (by decide)
  ·cases hm
 ·obtain ⟨l, hl, hx⟩ := List.mem_flatten.1 hm
  obtain ⟨i, hi, rfl⟩ := List.getElem_of_mem hl
  have hi' : i < ps.length := by rw [List.length_mapIdx] at hi; exact hi
  rw [List.getElem_mapIdx] at hx
  exact ih ps[i] (List.getElem_mem hi') _ (hp i hi') n hx
def arrS (N : List Str) (Pr : List (Str × Str)) : Nat → List Str → List Str × Bool
 | 0, out => (out, true)
 | n + 1, out => if 0 ≤ idxP N (rdyS N Pr out) then arrS N Pr n (out ++ [N.getD (idxP N (rdyS N Pr out)).toNat []]) else (out, false)
def cndS (N out : List Str) (n : Str) (p : Str × Str) : Bool := p.2 == n && N.contains p.1 && !out.contains p.1
def arS (e : Ex) (pos : Bool) : List Str × Bool := arrS (namesS e pos) (pairS e pos []) (namesS e pos).length []
set_option maxHeartbeats 8000000 in
theorem specEigenOrder_c (e : Ex) (he : e.wt ≤ 1048576) (pos : Bool) : FC Tryz.prog 42 [exD e, bD pos] [.one (strS (if specOk e pos = true then (arS e pos).1 else [])), bD (specOk e pos && (arS e pos).2), bD (specOk e pos)] := by
 have HI := l17Good_c e he pos
 cases h : specOk e pos
 ·rw [h] at HI
  rw [if_neg (by simp), Bool.false_and]
  show FC _ _ _ [.one (.sl 1 []), _, _]
  simp only [exD, exC_eq e] at HI ⊢
  refine FC_of Tryz.call42 Tryz.func42 rfl (by kernel_rfl) (by simp only [rd, List.map_cons, List.map_nil, List.length_cons, List.length_nil, Tryz.ntmps42]; omega) ?_
  simp -implicitDefEqProofs only [go_sem, Tryz.results42]
  refine callF (HI) (by simp -implicitDefEqProofs only [go_sem]) ?_
  simp -implicitDefEqProofs only [go_sem]
  refine buildDc (by simp -implicitDefEqProofs only [go_sem]) ?_
  simp -implicitDefEqProofs only [go_sem]
 ·rw [h] at HI
  obtain ⟨hg, hn, h60⟩ := specOk_node h
  have HN := l17Names_c e he pos hn
  have HP := l17Pairs_c e he pos [] hn h60 (by simp; omega)
  have hnl := namesS_len e pos
  have hpl := pairS_len e pos [] hn
  have hmul : e.nodes * (([] : List Str).length + e.wt) ≤ 60 * 2097152 := Nat.mul_le_mul h60 (by simp; omega)
  have hne := namesS_ne e pos hn
  have hv : arS e pos = arrS (namesS e pos) (pairS e pos []) (namesS e pos).length [] := rfl
  unfold prP at HP
  generalize namesS e pos = N at HN hnl hne hv
  generalize pairS e pos [] = Pr at HP hpl hv
  rw [if_pos rfl, Bool.true_and]
  generalize arS e pos = R at hv ⊢
  rw [show strS [] = .sl 1 [] from rfl] at HP
  simp only [exD, exC_eq e] at HI HN HP ⊢
  refine FC_ofN Tryz.call42 Tryz.func42 rfl (by kernel_rfl) (by simp only [rd, List.map_cons, List.map_nil, List.length_cons, List.length_nil, Tryz.ntmps42]; omega) ?_
  simp -implicitDefEqProofs only [go_sem, Tryz.results42]
  refine callF (HI) (by simp -implicitDefEqProofs only [go_sem]) ?_
  simp -implicitDefEqProofs only [go_sem]
  refine callFr (HN) (by simp -implicitDefEqProofs only [go_sem]) ?_
  simp -implicitDefEqProofs only [go_sem]
  refine buildDc (by simp -implicitDefEqProofs only [go_sem]) ?_
  simp -implicitDefEqProofs only [go_sem]
  refine callFr (HP) (by simp -implicitDefEqProofs only [go_sem]) ?_
  simp -implicitDefEqProofs only [go_sem]
  refine buildDc (by simp -implicitDefEqProofs only [go_sem]) ?_
  simp -implicitDefEqProofs only [go_sem]
  refine loop_rule (fun out : List Str => hd [(4, .one (.nl 1)), (5, vT (.bool false)), (6, vT (.bool false)), (7, .one (.rn (strS N))), (8, .one (.rn (prS Pr))), (9, .one (.ow 832 0))] [] [(832, ⟨true, 1, out.map fun s => [.str s], 0, true⟩)]) (fun out => out.length ≤ N.length ∧ arrS N Pr (N.length - out.length) out = R) (fun out => N.length - out.length) [] (weak_hd ?_) ⟨Nat.zero_le _, hv.symm⟩ ?_
  ·simp -implicitDefEqProofs only [go_sem]
  ·intro out ⟨ho, hr⟩
   by_cases hlt : out.length < N.length
   ·have ha : out.length ≤ 4294967295 := by omega
    have nilb : (([] : Str) == []) = true := rfl
    obtain ⟨n0, hn0⟩ : ∃ n, N.length - out.length = n + 1 := ⟨N.length - out.length - 1, by omega⟩
    rw [hn0] at hr
    unfold arrS at hr
    simp -implicitDefEqProofs only [go_sem, hlt]
    refine loop_rule (fun x : Nat × Str => hd [(4, .one (.nl 1)), (5, vT (.bool false)), (6, vT (.bool false)), (7, .one (.rn (strS N))), (8, .one (.rn (prS Pr))), (9, .one (.ow 832 0)), (10, vT (.str x.2)), (11, vI x.1)] [] [(832, ⟨true, 1, out.map fun s => [.str s], 0, true⟩)]) (fun x => x.1 ≤ N.length ∧ ((x.2 = [] ∧ ∀ n ∈ N.take x.1, rdyS N Pr out n = false) ∨ (x.2 ≠ [] ∧ ∃ j, ∃ h : j < N.length, idxP N (rdyS N Pr out) = (j : Nat) ∧ x.2 = N[j]))) (fun x => N.length - x.1) (0, []) (weak_hd ?_) ⟨Nat.zero_le _, Or.inl ⟨rfl, by simp⟩⟩ ?_
    ·simp -implicitDefEqProofs only [go_sem]
    ·rintro ⟨i, nx⟩ ⟨hi, hx⟩
     simp only at hi hx
     rcases hx with ⟨rfl, hno⟩ | ⟨hnx, j, hj, hidx, rfl⟩
     ·by_cases hil : i < N.length
      ·have HIn := l2In_c out N[i]
       generalize hnm : N[i] = nm at HIn
       simp -implicitDefEqProofs only [go_sem, hil, getD_at, nilb, hnm]
       refine callF (HIn) (by simp -implicitDefEqProofs only [go_sem]) ?_
       simp -implicitDefEqProofs only [go_sem]
       refine loop_rule (fun x : Nat × Bool => hd [(4, .one (.nl 1)), (5, vT (.bool false)), (6, vT (.bool false)), (7, .one (.rn (strS N))), (8, .one (.rn (prS Pr))), (9, .one (.ow 832 0)), (10, vT (.str [])), (11, vI i), (12, vT (.bool x.2)), (13, vI x.1)] [] [(832, ⟨true, 1, out.map fun s => [.str s], 0, true⟩)]) (fun x => x.1 ≤ Pr.length ∧ x.2 = (!out.contains nm && !((Pr.take x.1).any (cndS N out nm)))) (fun x => Pr.length - x.1) (0, !out.contains nm) (weak_hd ?_) ⟨Nat.zero_le _, by simp⟩ ?_
       ·simp -implicitDefEqProofs only [go_sem]
       ·rintro ⟨k, rd⟩ ⟨hk, hrd⟩
        simp only at hk hrd
        by_cases hkl : k < Pr.length
        ·have HA := l2In_c N Pr[k].1
         have HB := l2In_c out Pr[k].1
         have hnx : ((Pr.take (k + 1)).any (cndS N out nm)) = ((Pr.take k).any (cndS N out nm) || cndS N out nm Pr[k]) := by
          rw [List.take_succ_eq_append_getElem hkl, List.any_append]; simp
         have hcd : cndS N out nm Pr[k] = (Pr[k].2 == nm && N.contains Pr[k].1 && !out.contains Pr[k].1) := rfl
         cases c1 : (Pr[k].2 == nm)
         ·rw [c1, Bool.false_and, Bool.false_and] at hcd
          simp -implicitDefEqProofs only [go_sem, hkl]
          refine drawn (by kernel_rfl) ?_
          simp -implicitDefEqProofs only [go_sem, hkl, hil, getD_at, hnm, c1]
          refine ⟨by kernel_rfl, (k + 1, rd), ⟨hkl, by rw [hnx, hcd]; simpa using hrd⟩, by simp only; omega, weak_hd ?_⟩
          simp -implicitDefEqProofs only [go_sem]
          rw [wrap_s (by omega)]
         ·rw [c1, Bool.true_and] at hcd
          cases c2 : N.contains Pr[k].1
          ·rw [c2, Bool.false_and] at hcd
           rw [c2] at HA
           simp -implicitDefEqProofs only [go_sem, hkl]
           refine drawn (by kernel_rfl) ?_
           simp -implicitDefEqProofs only [go_sem, hkl, hil, getD_at, hnm, c1]
           refine gCallF (HA) (by simp -implicitDefEqProofs only [go_sem]) ?_
           simp -implicitDefEqProofs only [go_sem]
           refine ⟨by kernel_rfl, (k + 1, rd), ⟨hkl, by rw [hnx, hcd]; simpa using hrd⟩, by simp only; omega, weak_hd ?_⟩
           simp -implicitDefEqProofs only [go_sem]
           rw [wrap_s (by omega)]
          ·rw [c2, Bool.true_and] at hcd
           rw [c2] at HA
           cases c3 : out.contains Pr[k].1
           ·rw [c3] at HB hcd
            simp -implicitDefEqProofs only [go_sem, hkl]
            refine drawn (by kernel_rfl) ?_
            simp -implicitDefEqProofs only [go_sem, hkl, hil, getD_at, hnm, c1]
            refine gCallF (HA) (by simp -implicitDefEqProofs only [go_sem]) ?_
            simp -implicitDefEqProofs only [go_sem]
            simp -implicitDefEqProofs only [go_sem, hkl, getD_at]
            refine gCallF (HB) (by simp -implicitDefEqProofs only [go_sem]) ?_
            simp -implicitDefEqProofs only [go_sem]
            refine ⟨by kernel_rfl, (k + 1, false), ⟨hkl, by rw [hnx, hcd]; simp⟩, by simp only; omega, weak_hd ?_⟩
            simp -implicitDefEqProofs only [go_sem]
            rw [wrap_s (by omega)]
           ·rw [c3] at HB hcd
            simp -implicitDefEqProofs only [go_sem, hkl]
            refine drawn (by kernel_rfl) ?_
            simp -implicitDefEqProofs only [go_sem, hkl, hil, getD_at, hnm, c1]
            refine gCallF (HA) (by simp -implicitDefEqProofs only [go_sem]) ?_
            simp -implicitDefEqProofs only [go_sem]
            simp -implicitDefEqProofs only [go_sem, hkl, getD_at]
            refine gCallF (HB) (by simp -implicitDefEqProofs only [go_sem]) ?_
            simp -implicitDefEqProofs only [go_sem]
            refine ⟨by kernel_rfl, (k + 1, rd), ⟨hkl, by rw [hnx, hcd]; simpa using hrd⟩, by simp only; omega, weak_hd ?_⟩
            simp -implicitDefEqProofs only [go_sem]
            rw [wrap_s (by omega)]
        ·rw [List.take_of_length_le (by omega)] at hrd
         have hrd : rd = rdyS N Pr out nm := hrd
         simp -implicitDefEqProofs only [go_sem, hkl, hil, getD_at, hnm]
         refine ⟨fun hrt => ?_, fun hrf => ?_⟩
         ·refine ⟨(i + 1, nm), ⟨hil, Or.inr ⟨hnm ▸ hne _ (List.getElem_mem hil), i, hil, idxP_found hil hno (by rw [hnm, ← hrd]; exact hrt), hnm.symm⟩⟩, by simp only; omega, weak_hd ?_⟩
          simp -implicitDefEqProofs only [go_sem]
          rw [wrap_s (by omega)]
         ·refine ⟨(i + 1, []), ⟨hil, Or.inl ⟨rfl, take_all_succ hil hno (by rw [hnm, ← hrd]; exact hrf)⟩⟩, by simp only; omega, weak_hd ?_⟩
          simp -implicitDefEqProofs only [go_sem]
          rw [wrap_s (by omega)]
      ·have hid : idxP N (rdyS N Pr out) = -1 := by
        rw [List.take_of_length_le (by omega)] at hno
        exact idxP_none hno
       rw [hid, if_neg (by omega)] at hr
       subst hr
       simp -implicitDefEqProofs only [go_sem, hil, nilb]
     ·have hnxb : (N[j] == ([] : Str)) = false := by simpa using hnx
      rw [hidx, if_pos (by omega), Int.toNat_natCast, getD_eq hj] at hr
      simp -implicitDefEqProofs only [go_sem, hnxb]
      refine ⟨fun _ => ?_, fun _ => ?_⟩
      all_goals
       refine buildDc (by simp -implicitDefEqProofs only [go_sem]) ?_
       simp -implicitDefEqProofs only [go_sem]
       refine apD true (by simp -implicitDefEqProofs only [go_sem, ne_eq, List.length_map, ha]) ?_
       simp -implicitDefEqProofs only [go_sem, ne_eq, List.length_map, ha]
       refine ⟨out ++ [N[j]], ⟨by rw [List.length_append]; simp; omega, by rw [← hr]; congr 1; rw [List.length_append]; simp; omega⟩, by rw [List.length_append]; simp; omega, weak_hd ?_⟩
       simp -implicitDefEqProofs only [go_sem]
       rw [List.map_append, List.map_singleton]
   ·have h0 : N.length - out.length = 0 := by omega
    rw [h0] at hr
    unfold arrS at hr
    subst hr
    simp -implicitDefEqProofs only [go_sem, hlt]
end Go.Proofs.YtbccfiillleimaaGreat
namespace Go.Proofs.YtbccfiillleimaaGreat
set_option linter.unusedSimpArgs false
set_option linter.unusedVariables false
set_option linter.unusedSectionVars false
set_option maxRecDepth 4000
open Go.RowKit
def mk1Ss : Str → Nat → Str × Nat
 | n0, k => ((mtx k), (k + 1))
def mkSs : List Str → Nat → List Str × Nat
 | [], k => ([], k)
 | a :: xs, k => ((mk1Ss a k).1 :: (mkSs xs (mk1Ss a k).2).1, (mkSs xs (mk1Ss a k).2).2)
def ct1Ss : Str → Nat
 | _ => 1 + 1
def ctSs : List Str → Nat
 | [] => 0
 | a :: xs => ct1Ss a + ctSs xs
theorem mk1Ss_ct : ∀ (a : Str) (k : Nat), k ≤ (mk1Ss a k).2 ∧ (mk1Ss a k).2 ≤ k + ct1Ss a
 | n0, k => by simp only [mk1Ss, ct1Ss]; omega
theorem mkSs_ct : ∀ (xs : List Str) (k : Nat), k ≤ (mkSs xs k).2 ∧ (mkSs xs k).2 ≤ k + ctSs xs
 | [], k => ⟨Nat.le_refl _, Nat.le_refl _⟩
 | a :: xs, k => by have h1 := mk1Ss_ct a k; have h2 := mkSs_ct xs (mk1Ss a k).2; simp only [mkSs, ctSs]; omega
theorem ctSs_len : ∀ xs : List Str, xs.length ≤ ctSs xs
  | [] => Nat.le_refl _
  | a :: xs => by have := ctSs_len xs; have : 1 ≤ ct1Ss a := by simp only [ct1Ss]; omega
                  simp only [List.length_cons, ctSs]; omega
theorem markStringS_of (xs : List Str) :
  ∀ k : Nat, 0 < k → k + ctSs xs ≤ 4611686018427387904 → IC Tryz.prog 45 [] (.one (strS xs)) [iD k] (.one (strS (mkSs xs k).1)) [iD (mkSs xs k).2] := by
 intro k h0 hk
 refine IC_ofP Tryz.call45 Tryz.func45 rfl (by kernel_rfl) (by simp only [argsI, rd, List.map_cons, List.map_nil, List.nil_append, List.length_cons, List.length_nil, Tryz.ntmps45]; omega) (by simp only [Tryz.ntmps45]; omega) (fun vs => ?_)
 simp -implicitDefEqProofs only [go_sem, Tryz.results45, initP, initI, argsI, PI]
 refine loop_rule (fun (x : List Str × List Str × Nat) => hd [(0, .one (.ow 0 0)), (1000000, .one (.ow 0 0)), (1, vI x.2.2), (5, vI x.1.length)] [] [(0, ⟨true, 1, x.1.map (fun s => [T.str s]) ++ pinRs vs x.1.length (x.2.1.map (fun s => [T.str s])), 0, true⟩)])
  (fun x => (mkSs xs k).1 = x.1 ++ (mkSs x.2.1 x.2.2).1 ∧ (mkSs xs k).2 = (mkSs x.2.1 x.2.2).2 ∧ 0 < x.2.2 ∧ x.2.2 + ctSs x.2.1 ≤ 4611686018427387904 ∧ x.1.length + x.2.1.length = xs.length ∧ ∀ a ∈ x.2.1, a ∈ xs) (fun x => x.2.1.length) ([], xs, k) (weak_hd ?_) ?_ ?_
 ·simp -implicitDefEqProofs only [go_sem]
 ·exact ⟨rfl, rfl, h0, hk, by simp, fun _ h => h⟩
 ·intro ⟨dn, rest, kk⟩ ⟨h1, h2, h3, h4, h6, h5⟩
  simp only at h1 h2 h3 h4 h5 h6
  cases rest with
  | nil =>
   simp only [mkSs, List.append_nil] at h1 h2
   simp -implicitDefEqProofs only [go_sem, h1, h2]
  | cons n0 rest =>
   simp only [mkSs, mk1Ss, ctSs, ct1Ss] at h1 h2 h4
   have w0 : IntKind.i64.wrap (((kk : Nat) : Int) + 1) = ((kk + 1 : Nat) : Int) := wrap_s (by omega)
   have hln := ctSs_len xs
   rw [List.length_cons] at h6
   have wl : IntKind.i64.wrap ((dn.length : Int) + 1) = ((dn.length + 1 : Nat) : Int) := wrap_s (by omega)
   simp -implicitDefEqProofs only [go_sem, List.map_cons]
   refine callF (markText_c kk (by omega) (by omega)) (by simp -implicitDefEqProofs only [go_sem, w0]) ?_
   simp -implicitDefEqProofs only [go_sem, w0]
   refine storeD (by simp -implicitDefEqProofs only [go_sem, implies_true, w0]) ?_
   simp -implicitDefEqProofs only [go_sem, implies_true, w0]
   refine ⟨(dn ++ [(mtx kk)], rest, (kk + 1)), ⟨by simpa using h1, h2, by show 0 < (kk + 1); omega, by show (kk + 1) + ctSs rest ≤ _; omega, by simp; omega, fun b hb => h5 b (by simp [hb])⟩, by simp, weak_hd ?_⟩
   simp -implicitDefEqProofs only [go_sem, wl, List.map_cons, List.map_append, List.append_assoc]
theorem markStringS_c (xs : List Str) (k : Nat) (h0 : 0 < k) (hk : k + ctSs xs ≤ 4611686018427387904) : IC Tryz.prog 45 [] (.one (strS xs)) [iD k] (.one (strS (mkSs xs k).1)) [iD (mkSs xs k).2] := markStringS_of xs k h0 hk
theorem heldStringS_of (xs : List Str) :
  ∀ k : Nat, 0 < k → k + ctSs xs ≤ 4611686018427387904 → FC Tryz.prog 46 [.one (strS (mkSs xs k).1), iD k] [iD (mkSs xs k).2] := by
 intro k h0 hk
 refine FC_of Tryz.call46 Tryz.func46 rfl (by kernel_rfl) (by simp only [rd, List.map_cons, List.map_nil, List.length_cons, List.length_nil, Tryz.ntmps46]; omega) ?_
 simp -implicitDefEqProofs only [go_sem, Tryz.results46]
 refine loop_rule (fun (x : List Str × List Str × Nat) => hd [(0, vT (.sl 1 (x.1.map (fun s => [T.str s]) ++ (mkSs x.2.1 x.2.2).1.map (fun s => [T.str s])))), (1, vI x.2.2), (5, vI x.1.length)] [] [])
  (fun x => (mkSs xs k).1 = x.1 ++ (mkSs x.2.1 x.2.2).1 ∧ (mkSs xs k).2 = (mkSs x.2.1 x.2.2).2 ∧ 0 < x.2.2 ∧ x.2.2 + ctSs x.2.1 ≤ 4611686018427387904 ∧ x.1.length + x.2.1.length = xs.length ∧ ∀ a ∈ x.2.1, a ∈ xs) (fun x => x.2.1.length) ([], xs, k) (weak_hd ?_) ?_ ?_
 ·simp -implicitDefEqProofs only [go_sem]
 ·exact ⟨rfl, rfl, h0, hk, by simp, fun _ h => h⟩
 ·intro ⟨dn, rest, kk⟩ ⟨h1, h2, h3, h4, h6, h5⟩
  simp only at h1 h2 h3 h4 h5 h6
  cases rest with
  | nil =>
   simp only [mkSs, List.append_nil] at h1 h2
   simp -implicitDefEqProofs only [go_sem, h2, mkSs]
  | cons n0 rest =>
   simp only [mkSs, mk1Ss, ctSs, ct1Ss] at h1 h2 h4
   have w0 : IntKind.i64.wrap (((kk : Nat) : Int) + 1) = ((kk + 1 : Nat) : Int) := wrap_s (by omega)
   have hln := ctSs_len xs
   rw [List.length_cons] at h6
   have wl : IntKind.i64.wrap ((dn.length : Int) + 1) = ((dn.length + 1 : Nat) : Int) := wrap_s (by omega)
   simp -implicitDefEqProofs only [go_sem, mkSs, mk1Ss, List.map_cons]
   refine drawn (by kernel_rfl) ?_
   simp -implicitDefEqProofs only [go_sem]
   refine dCallF (markText_c kk (by omega) (by omega)) (by simp -implicitDefEqProofs only [go_sem, beq_self_eq_true, bne_self_eq_false, w0]) ?_
   simp -implicitDefEqProofs only [go_sem, beq_self_eq_true, bne_self_eq_false, w0]
   refine ⟨by kernel_rfl, ?_⟩
   refine ⟨(dn ++ [(mtx kk)], rest, (kk + 1)), ⟨by simpa using h1, h2, by show 0 < (kk + 1); omega, by show (kk + 1) + ctSs rest ≤ _; omega, by simp; omega, fun b hb => h5 b (by simp [hb])⟩, by simp, weak_hd ?_⟩
   simp -implicitDefEqProofs only [go_sem, wl, List.map_cons, List.map_append, List.append_assoc]
theorem heldStringS_c (xs : List Str) (k : Nat) (h0 : 0 < k) (hk : k + ctSs xs ≤ 4611686018427387904) : FC Tryz.prog 46 [.one (strS (mkSs xs k).1), iD k] [iD (mkSs xs k).2] := heldStringS_of xs k h0 hk
end Go.Proofs.YtbccfiillleimaaGreat
namespace Go.Proofs.YtbccfiillleimaaGreat
set_option linter.unusedSimpArgs false
set_option linter.unusedVariables false
set_option linter.unusedSectionVars false
set_option maxRecDepth 4000
open Go.RowKit
mutual
def mk1Exs : Ex → Nat → Ex × Nat
 | .mk (.mk o0 (.mk n0 s0) v0 p0) t0 e0, k => (.mk (.mk ((k : Nat) : Int) (.mk (mtx (k + 1)) (mkTms s0 ((k + 1) + 1)).1) (mtx (mkTms s0 ((k + 1) + 1)).2) (mkFms p0 ((mkTms s0 ((k + 1) + 1)).2 + 1)).1) (mkTms t0 (mkFms p0 ((mkTms s0 ((k + 1) + 1)).2 + 1)).2).1 (mkExs e0 (mkTms t0 (mkFms p0 ((mkTms s0 ((k + 1) + 1)).2 + 1)).2).2).1, (mkExs e0 (mkTms t0 (mkFms p0 ((mkTms s0 ((k + 1) + 1)).2 + 1)).2).2).2)
def mkExs : List Ex → Nat → List Ex × Nat
 | [], k => ([], k)
 | a :: xs, k => ((mk1Exs a k).1 :: (mkExs xs (mk1Exs a k).2).1, (mkExs xs (mk1Exs a k).2).2)
end
mutual
def ct1Exs : Ex → Nat
 | .mk (.mk o0 (.mk n0 s0) v0 p0) t0 e0 => 1 + 1 + 1 + ctTms s0 + 1 + ctFms p0 + ctTms t0 + ctExs e0
def ctExs : List Ex → Nat
 | [] => 0
 | a :: xs => ct1Exs a + ctExs xs
end
mutual
theorem mk1Exs_ct : ∀ (a : Ex) (k : Nat), k ≤ (mk1Exs a k).2 ∧ (mk1Exs a k).2 ≤ k + ct1Exs a
 | .mk (.mk o0 (.mk n0 s0) v0 p0) t0 e0, k => by have h_s0 := mkTms_ct s0 ((k + 1) + 1); have h_p0 := mkFms_ct p0 ((mkTms s0 ((k + 1) + 1)).2 + 1); have h_t0 := mkTms_ct t0 (mkFms p0 ((mkTms s0 ((k + 1) + 1)).2 + 1)).2; have h_e0 := mkExs_ct e0 (mkTms t0 (mkFms p0 ((mkTms s0 ((k + 1) + 1)).2 + 1)).2).2; simp only [mk1Exs, ct1Exs]; omega
theorem mkExs_ct : ∀ (xs : List Ex) (k : Nat), k ≤ (mkExs xs k).2 ∧ (mkExs xs k).2 ≤ k + ctExs xs
 | [], k => ⟨Nat.le_refl _, Nat.le_refl _⟩
 | a :: xs, k => by have h1 := mk1Exs_ct a k; have h2 := mkExs_ct xs (mk1Exs a k).2; simp only [mkExs, ctExs]; omega
end
theorem ctExs_len : ∀ xs : List Ex, xs.length ≤ ctExs xs
  | [] => Nat.le_refl _
  | a :: xs => by have := ctExs_len xs; have : 1 ≤ ct1Exs a := by obtain ⟨⟨o0, ⟨n0, s0⟩, v0, p0⟩, t0, e0⟩ := a; simp only [ct1Exs]; omega
                  simp only [List.length_cons, ctExs]; omega
theorem markExpansionS_of (xs : List Ex) (H : ∀ a ∈ xs, ∀ k : Nat, 0 < k → k + ctExs a.parts ≤ 4611686018427387904 → IC Tryz.prog 90 [] (.one (exS a.parts)) [iD k] (.one (exS (mkExs a.parts k).1)) [iD (mkExs a.parts k).2]) :
  ∀ k : Nat, 0 < k → k + ctExs xs ≤ 4611686018427387904 → IC Tryz.prog 90 [] (.one (exS xs)) [iD k] (.one (exS (mkExs xs k).1)) [iD (mkExs xs k).2] := by
 intro k h0 hk
 refine IC_ofP Tryz.call90 Tryz.func90 rfl (by kernel_rfl) (by simp only [argsI, rd, List.map_cons, List.map_nil, List.nil_append, List.length_cons, List.length_nil, Tryz.ntmps90]; omega) (by simp only [Tryz.ntmps90]; omega) (fun vs => ?_)
 simp -implicitDefEqProofs only [go_sem, Tryz.results90, initP, initI, argsI, PI]
 refine loop_rule (fun (x : List Ex × List Ex × Nat) => hd [(0, .one (.ow 0 0)), (1000000, .one (.ow 0 0)), (1, vI x.2.2), (5, vI x.1.length)] [] [(0, ⟨true, 7, x.1.map exC ++ pinRs vs x.1.length (x.2.1.map exC), 0, true⟩)])
  (fun x => (mkExs xs k).1 = x.1 ++ (mkExs x.2.1 x.2.2).1 ∧ (mkExs xs k).2 = (mkExs x.2.1 x.2.2).2 ∧ 0 < x.2.2 ∧ x.2.2 + ctExs x.2.1 ≤ 4611686018427387904 ∧ x.1.length + x.2.1.length = xs.length ∧ ∀ a ∈ x.2.1, a ∈ xs) (fun x => x.2.1.length) ([], xs, k) (weak_hd ?_) ?_ ?_
 ·simp -implicitDefEqProofs only [go_sem]
 ·exact ⟨rfl, rfl, h0, hk, by simp, fun _ h => h⟩
 ·intro ⟨dn, rest, kk⟩ ⟨h1, h2, h3, h4, h6, h5⟩
  simp only at h1 h2 h3 h4 h5 h6
  cases rest with
  | nil =>
   simp only [mkExs, List.append_nil] at h1 h2
   simp -implicitDefEqProofs only [go_sem, h1, h2]
  | cons a rest =>
   obtain ⟨⟨o0, ⟨n0, s0⟩, v0, p0⟩, t0, e0⟩ := a
   simp only [mkExs, mk1Exs, ctExs, ct1Exs] at h1 h2 h4
   have hc_s0 := mkTms_ct s0 ((kk + 1) + 1)
   have hc_p0 := mkFms_ct p0 ((mkTms s0 ((kk + 1) + 1)).2 + 1)
   have hc_t0 := mkTms_ct t0 (mkFms p0 ((mkTms s0 ((kk + 1) + 1)).2 + 1)).2
   have hc_e0 := mkExs_ct e0 (mkTms t0 (mkFms p0 ((mkTms s0 ((kk + 1) + 1)).2 + 1)).2).2
   have w0 : IntKind.i64.wrap (((kk : Nat) : Int) + 1) = ((kk + 1 : Nat) : Int) := wrap_s (by omega)
   have w1 : IntKind.i64.wrap ((((kk + 1) : Nat) : Int) + 1) = (((kk + 1) + 1 : Nat) : Int) := wrap_s (by omega)
   have w2 : IntKind.i64.wrap ((((mkTms s0 ((kk + 1) + 1)).2 : Nat) : Int) + 1) = (((mkTms s0 ((kk + 1) + 1)).2 + 1 : Nat) : Int) := wrap_s (by omega)
   have hln := ctExs_len xs
   rw [List.length_cons] at h6
   have wl : IntKind.i64.wrap ((dn.length : Int) + 1) = ((dn.length + 1 : Nat) : Int) := wrap_s (by omega)
   simp -implicitDefEqProofs only [go_sem, exC_eq (.mk _ _ _), Ex.form, Ex.terms, Ex.parts, Fm.op, Fm.atom, Fm.var, Fm.parts, Tm.name, Tm.args]
   refine storeD (by simp -implicitDefEqProofs only [go_sem, implies_true, w0, w1, w2]) ?_
   simp -implicitDefEqProofs only [go_sem, implies_true, w0, w1, w2]
   refine callF (markText_c (kk + 1) (by omega) (by omega)) (by simp -implicitDefEqProofs only [go_sem, w0, w1, w2]) ?_
   simp -implicitDefEqProofs only [go_sem, w0, w1, w2]
   refine storeD (by simp -implicitDefEqProofs only [go_sem, implies_true, w0, w1, w2]) ?_
   simp -implicitDefEqProofs only [go_sem, implies_true, w0, w1, w2]
   refine callN (l := [(0, .one (.ow 0 0)), (1000000, .one (.ow 0 0)), (5, vI dn.length), (36, .one (.cv (vs dn.length 2))), (37, vI (((kk + 1) + 1) : Nat))]) (bl := []) (el := [(0, ⟨true, 7, dn.map exC ++ [.int .i64 ((kk : Nat) : Int), .str (mtx (kk + 1)), .pin (vs dn.length 2) (tmS s0), .str v0, .pin (vs dn.length 4) (fmS p0), .pin (vs dn.length 5) (tmS t0), .pin (vs dn.length 6) (exS e0)] :: pinRs vs (dn.length + 1) (rest.map exC), 0, true⟩)]) 0 dn.length 2 (markTermS_c s0 ((kk + 1) + 1) (by omega) (by omega)) (by simp -implicitDefEqProofs only [go_sem, w0, w1, w2, tmS]) rfl rfl rfl (by simp -implicitDefEqProofs only [go_sem, tmS, Ex.form, Ex.terms, Ex.parts, Fm.op, Fm.atom, Fm.var, Fm.parts, Tm.name, Tm.args]) rfl ?_
   simp -implicitDefEqProofs only [go_sem, w0, w1, w2, Ex.form, Ex.terms, Ex.parts, Fm.op, Fm.atom, Fm.var, Fm.parts, Tm.name, Tm.args]
   refine callF (markText_c (mkTms s0 ((kk + 1) + 1)).2 (by omega) (by omega)) (by simp -implicitDefEqProofs only [go_sem, w0, w1, w2]) ?_
   simp -implicitDefEqProofs only [go_sem, w0, w1, w2]
   refine storeD (by simp -implicitDefEqProofs only [go_sem, implies_true, w0, w1, w2]) ?_
   simp -implicitDefEqProofs only [go_sem, implies_true, w0, w1, w2]
   refine callN (l := [(0, .one (.ow 0 0)), (1000000, .one (.ow 0 0)), (5, vI dn.length), (53, .one (.cv (vs dn.length 4))), (54, vI (((mkTms s0 ((kk + 1) + 1)).2 + 1) : Nat))]) (bl := []) (el := [(0, ⟨true, 7, dn.map exC ++ [.int .i64 ((kk : Nat) : Int), .str (mtx (kk + 1)), tmS (mkTms s0 ((kk + 1) + 1)).1, .str (mtx (mkTms s0 ((kk + 1) + 1)).2), .pin (vs dn.length 4) (fmS p0), .pin (vs dn.length 5) (tmS t0), .pin (vs dn.length 6) (exS e0)] :: pinRs vs (dn.length + 1) (rest.map exC), 0, true⟩)]) 0 dn.length 4 (markFormulaS_c p0 ((mkTms s0 ((kk + 1) + 1)).2 + 1) (by omega) (by omega)) (by simp -implicitDefEqProofs only [go_sem, w0, w1, w2, fmS]) rfl rfl rfl (by simp -implicitDefEqProofs only [go_sem, fmS, Ex.form, Ex.terms, Ex.parts, Fm.op, Fm.atom, Fm.var, Fm.parts, Tm.name, Tm.args]) rfl ?_
   simp -implicitDefEqProofs only [go_sem, w0, w1, w2, Ex.form, Ex.terms, Ex.parts, Fm.op, Fm.atom, Fm.var, Fm.parts, Tm.name, Tm.args]
   refine callN (l := [(0, .one (.ow 0 0)), (1000000, .one (.ow 0 0)), (5, vI dn.length), (60, .one (.cv (vs dn.length 5))), (61, vI ((mkFms p0 ((mkTms s0 ((kk + 1) + 1)).2 + 1)).2 : Nat))]) (bl := []) (el := [(0, ⟨true, 7, dn.map exC ++ [.int .i64 ((kk : Nat) : Int), .str (mtx (kk + 1)), tmS (mkTms s0 ((kk + 1) + 1)).1, .str (mtx (mkTms s0 ((kk + 1) + 1)).2), fmS (mkFms p0 ((mkTms s0 ((kk + 1) + 1)).2 + 1)).1, .pin (vs dn.length 5) (tmS t0), .pin (vs dn.length 6) (exS e0)] :: pinRs vs (dn.length + 1) (rest.map exC), 0, true⟩)]) 0 dn.length 5 (markTermS_c t0 (mkFms p0 ((mkTms s0 ((kk + 1) + 1)).2 + 1)).2 (by omega) (by omega)) (by simp -implicitDefEqProofs only [go_sem, w0, w1, w2, tmS]) rfl rfl rfl (by simp -implicitDefEqProofs only [go_sem, tmS, Ex.form, Ex.terms, Ex.parts, Fm.op, Fm.atom, Fm.var, Fm.parts, Tm.name, Tm.args]) rfl ?_
   simp -implicitDefEqProofs only [go_sem, w0, w1, w2, Ex.form, Ex.terms, Ex.parts, Fm.op, Fm.atom, Fm.var, Fm.parts, Tm.name, Tm.args]
   refine callN (l := [(0, .one (.ow 0 0)), (1000000, .one (.ow 0 0)), (5, vI dn.length), (67, .one (.cv (vs dn.length 6))), (68, vI ((mkTms t0 (mkFms p0 ((mkTms s0 ((kk + 1) + 1)).2 + 1)).2).2 : Nat))]) (bl := []) (el := [(0, ⟨true, 7, dn.map exC ++ [.int .i64 ((kk : Nat) : Int), .str (mtx (kk + 1)), tmS (mkTms s0 ((kk + 1) + 1)).1, .str (mtx (mkTms s0 ((kk + 1) + 1)).2), fmS (mkFms p0 ((mkTms s0 ((kk + 1) + 1)).2 + 1)).1, tmS (mkTms t0 (mkFms p0 ((mkTms s0 ((kk + 1) + 1)).2 + 1)).2).1, .pin (vs dn.length 6) (exS e0)] :: pinRs vs (dn.length + 1) (rest.map exC), 0, true⟩)]) 0 dn.length 6 (H (.mk (.mk o0 (.mk n0 s0) v0 p0) t0 e0) (h5 _ (by simp)) (mkTms t0 (mkFms p0 ((mkTms s0 ((kk + 1) + 1)).2 + 1)).2).2 (by omega) (by show (mkTms t0 (mkFms p0 ((mkTms s0 ((kk + 1) + 1)).2 + 1)).2).2 + ctExs e0 ≤ _; omega)) (by simp -implicitDefEqProofs only [go_sem, w0, w1, w2, exS]) rfl rfl rfl (by simp -implicitDefEqProofs only [go_sem, exS, Ex.form, Ex.terms, Ex.parts, Fm.op, Fm.atom, Fm.var, Fm.parts, Tm.name, Tm.args]) rfl ?_
   simp -implicitDefEqProofs only [go_sem, w0, w1, w2, Ex.form, Ex.terms, Ex.parts, Fm.op, Fm.atom, Fm.var, Fm.parts, Tm.name, Tm.args]
   refine ⟨(dn ++ [.mk (.mk ((kk : Nat) : Int) (.mk (mtx (kk + 1)) (mkTms s0 ((kk + 1) + 1)).1) (mtx (mkTms s0 ((kk + 1) + 1)).2) (mkFms p0 ((mkTms s0 ((kk + 1) + 1)).2 + 1)).1) (mkTms t0 (mkFms p0 ((mkTms s0 ((kk + 1) + 1)).2 + 1)).2).1 (mkExs e0 (mkTms t0 (mkFms p0 ((mkTms s0 ((kk + 1) + 1)).2 + 1)).2).2).1], rest, (mkExs e0 (mkTms t0 (mkFms p0 ((mkTms s0 ((kk + 1) + 1)).2 + 1)).2).2).2), ⟨by simpa using h1, h2, by show 0 < (mkExs e0 (mkTms t0 (mkFms p0 ((mkTms s0 ((kk + 1) + 1)).2 + 1)).2).2).2; omega, by show (mkExs e0 (mkTms t0 (mkFms p0 ((mkTms s0 ((kk + 1) + 1)).2 + 1)).2).2).2 + ctExs rest ≤ _; omega, by simp; omega, fun b hb => h5 b (by simp [hb])⟩, by simp, weak_hd ?_⟩
   simp -implicitDefEqProofs only [go_sem, wl, exC_eq (.mk _ _ _), Ex.form, Ex.terms, Ex.parts, Fm.op, Fm.atom, Fm.var, Fm.parts, Tm.name, Tm.args, List.map_append, List.append_assoc]
theorem markExpansionS_c (xs : List Ex) (k : Nat) (h0 : 0 < k) (hk : k + ctExs xs ≤ 4611686018427387904) : IC Tryz.prog 90 [] (.one (exS xs)) [iD k] (.one (exS (mkExs xs k).1)) [iD (mkExs xs k).2] :=
 markExpansionS_of xs (fun a _ => ex_ind (P := fun a => ∀ k : Nat, 0 < k → k + ctExs a.parts ≤ 4611686018427387904 → IC Tryz.prog 90 [] (.one (exS a.parts)) [iD k] (.one (exS (mkExs a.parts k).1)) [iD (mkExs a.parts k).2]) (fun _ _ ps ih => markExpansionS_of ps ih) a) k h0 hk
end Go.Proofs.YtbccfiillleimaaGreat
namespace Go.Proofs.YtbccfiillleimaaGreat
set_option linter.unusedSimpArgs false
set_option linter.unusedVariables false
set_option linter.unusedSectionVars false
set_option maxRecDepth 4000
open Go.RowKit
def mkTExpansion : Ex → Nat → Ex × Nat
 | .mk (.mk o0 (.mk n0 s0) v0 p0) t0 e0, k => (.mk (.mk o0 (.mk n0 (mkTms s0 k).1) v0 (mkFms p0 (mkTms s0 k).2).1) (mkTms t0 (mkFms p0 (mkTms s0 k).2).2).1 (mkExs e0 (mkTms t0 (mkFms p0 (mkTms s0 k).2).2).2).1, (mkExs e0 (mkTms t0 (mkFms p0 (mkTms s0 k).2).2).2).2)
def ctTExpansion : Ex → Nat
 | .mk (.mk _ (.mk _ s0) _ p0) t0 e0 => ctTms s0 + ctFms p0 + ctTms t0 + ctExs e0
theorem mkTExpansion_ct : ∀ (a : Ex) (k : Nat), k ≤ (mkTExpansion a k).2 ∧ (mkTExpansion a k).2 ≤ k + ctTExpansion a
 | .mk (.mk o0 (.mk n0 s0) v0 p0) t0 e0, k => by
  have h1 := mkTms_ct s0 k
  have h2 := mkFms_ct p0 (mkTms s0 k).2
  have h3 := mkTms_ct t0 (mkFms p0 (mkTms s0 k).2).2
  have h4 := mkExs_ct e0 (mkTms t0 (mkFms p0 (mkTms s0 k).2).2).2
  simp only [mkTExpansion, ctTExpansion]; omega
mutual
theorem ct1Exs_wt : ∀ a : Ex, ct1Exs a ≤ 6 + 6 * a.wt
 | .mk (.mk o (.mk n s) v p) t e => by
  have h1 := ctTms_wt s
  have h2 := ctFms_wt p
  have h3 := ctTms_wt t
  have h4 := ctExs_wt e
  rw [Ex.wt_eq, ct1Exs]; unfold fmsW at h2; unfold exsW at h4
  simp only [Ex.form, Ex.terms, Ex.parts]
  rw [Fm.wt_eq]
  simp only [Fm.atom, Fm.var, Fm.parts]
  rw [Tm.wt_eq]
  have e1 : tmsW s = s.length + (s.map Tm.wt).sum := rfl
  simp only [Tm.name, Tm.args]; omega
theorem ctExs_wt : ∀ xs : List Ex, ctExs xs ≤ 6 * exsW xs
 | [] => by simp [ctExs]
 | a :: xs => by
  have h1 := ct1Exs_wt a
  have h2 := ctExs_wt xs
  unfold exsW at h2 ⊢
  rw [ctExs, List.length_cons, List.map_cons, List.sum_cons]; omega
end
theorem ctTExpansion_wt (a : Ex) : ctTExpansion a ≤ 6 * a.wt := by
 obtain ⟨⟨o, ⟨n, s⟩, v, p⟩, t, e⟩ := a
 have h1 := ctTms_wt s
 have h2 := ctFms_wt p
 have h3 := ctTms_wt t
 have h4 := ctExs_wt e
 rw [Ex.wt_eq, ctTExpansion]; unfold fmsW at h2; unfold exsW at h4
 simp only [Ex.form, Ex.terms, Ex.parts]
 rw [Fm.wt_eq]
 simp only [Fm.atom, Fm.var, Fm.parts]
 rw [Tm.wt_eq]
 have e1 : tmsW s = s.length + (s.map Tm.wt).sum := rfl
 simp only [Tm.name, Tm.args]; omega
theorem mkTExpansion_cells (e : Ex) (k : Nat) : exC (mkTExpansion e k).1 = [.int .i64 e.form.op, .str e.form.atom.name, .sl 2 ((mkTExpansion e k).1.form.atom.args.map tmC), .str e.form.var, .sl 5 ((mkTExpansion e k).1.form.parts.map fmC), .sl 2 ((mkTExpansion e k).1.terms.map tmC), .sl 7 ((mkTExpansion e k).1.parts.map exC)] := by
 obtain ⟨⟨o, ⟨n, s⟩, v, p⟩, t, ps⟩ := e
 rw [exC_eq]; rfl
theorem markExpansion_c (a : Ex) (k : Nat) (h0 : 0 < k) (hk : k + ctTExpansion a ≤ 4611686018427387904) : IC Tryz.prog 36 [] (.agg (exC a)) [iD k] (.agg (exC (mkTExpansion a k).1)) [iD (mkTExpansion a k).2] := by
 obtain ⟨⟨o0, ⟨n0, s0⟩, v0, p0⟩, t0, e0⟩ := a
 simp only [ctTExpansion] at hk
 have hc0 := mkTms_ct s0 k
 have hc1 := mkFms_ct p0 (mkTms s0 k).2
 have hc2 := mkTms_ct t0 (mkFms p0 (mkTms s0 k).2).2
 have H1 := markFormula_c (.mk o0 (.mk n0 s0) v0 p0) k h0 (by simp only [ctTFormula, ctTTerm]; omega)
 have H2 := markTermS_c t0 (mkFms p0 (mkTms s0 k).2).2 (by omega) (by omega)
 have H3 := markExpansionS_c e0 (mkTms t0 (mkFms p0 (mkTms s0 k).2).2).2 (by omega) (by omega)
 simp only [fmC_eq (.mk _ _ _ _), exC_eq (.mk _ _ _), tmC_eq (.mk _ _), Ex.form, Ex.terms, Ex.parts, Fm.op, Fm.atom, Fm.var, Fm.parts, Tm.name, Tm.args, mkTExpansion, mkTFormula, mkTTerm] at H1 H2 H3 ⊢
 generalize (mkTms s0 k).1 = s1 at H1 ⊢
 generalize (mkFms p0 (mkTms s0 k).2).1 = p1 at H1 ⊢
 generalize (mkFms p0 (mkTms s0 k).2).2 = k2 at H1 H2 H3 ⊢
 generalize (mkTms t0 k2).1 = t1 at H2 ⊢
 generalize (mkTms t0 k2).2 = k3 at H2 H3 ⊢
 generalize (mkExs e0 k3).1 = e1 at H3 ⊢
 generalize (mkExs e0 k3).2 = k4 at H3 ⊢
 refine IC_of Tryz.call36 Tryz.func36 rfl (by kernel_rfl) (by simp only [argsI, rd, List.map_cons, List.map_nil, List.nil_append, List.length_cons, List.length_nil, Tryz.ntmps36]; omega) (by simp only [Tryz.ntmps36]; omega) ⟨⟨by simp, by simp [T.isPin]⟩, smallG_rd _⟩ trivial ?_
 simp -implicitDefEqProofs only [go_sem, Tryz.results36, initI, argsI, PI]
 refine callIdL [1000000, 2, 6, 7] (H1) (by simp -implicitDefEqProofs only [go_sem]) (by simp -implicitDefEqProofs only [go_sem]) (by simp -implicitDefEqProofs only [go_sem]) (by simp -implicitDefEqProofs only [go_sem]) (by simp -implicitDefEqProofs only [go_sem]) rfl ?_
 simp -implicitDefEqProofs only [go_sem]
 refine callIdL [1000000, 2, 10, 11] (H2) (by simp -implicitDefEqProofs only [go_sem]) (by simp -implicitDefEqProofs only [go_sem]) (by simp -implicitDefEqProofs only [go_sem]) (by simp -implicitDefEqProofs only [go_sem]) (by simp -implicitDefEqProofs only [go_sem]) rfl ?_
 simp -implicitDefEqProofs only [go_sem]
 refine callIdL [1000000, 2, 14, 15] (H3) (by simp -implicitDefEqProofs only [go_sem]) (by simp -implicitDefEqProofs only [go_sem]) (by simp -implicitDefEqProofs only [go_sem]) (by simp -implicitDefEqProofs only [go_sem]) (by simp -implicitDefEqProofs only [go_sem]) rfl ?_
 simp -implicitDefEqProofs only [go_sem]
end Go.Proofs.YtbccfiillleimaaGreat
namespace Go.Proofs.YtbccfiillleimaaGreat
set_option linter.unusedSimpArgs false
set_option linter.unusedVariables false
set_option linter.unusedSectionVars false
set_option maxRecDepth 4000
open Go.RowKit
theorem idxP_congr {α : Type} {xs : List α} {p q : α → Bool} (h : ∀ x ∈ xs, p x = q x) : idxP xs p = idxP xs q := by
 have h1 : xs.any p = xs.any q := by
  induction xs with
  | nil => rfl
  | cons a l ih => rw [List.any_cons, List.any_cons, h a (by simp), ih fun x hx => h x (by simp [hx])]
 have h2 : xs.findIdx p = xs.findIdx q := by
  clear h1
  induction xs with
  | nil => rfl
  | cons a l ih => rw [List.findIdx_cons, List.findIdx_cons, h a (by simp), ih fun x hx => h x (by simp [hx])]
 unfold idxP
 rw [h1, h2]
theorem idxP_map {α β : Type} (f : α → β) (xs : List α) (p : β → Bool) : idxP (xs.map f) p = idxP xs fun x => p (f x) := by
 have h2 : (xs.map f).findIdx p = xs.findIdx fun x => p (f x) := by
  induction xs with
  | nil => rfl
  | cons a l ih => rw [List.map_cons, List.findIdx_cons, List.findIdx_cons, ih]
 unfold idxP
 rw [List.any_map, h2]
 rfl
theorem arr_same {L : List Eg} {N : List Str} {Pr : List (Str × Str)} (hN : L.map Prod.fst = N) (h : ∀ out, ∀ z ∈ L, rdyI L out z = rdyS N Pr out z.1) : ∀ n out, arrI L n out = arrS N Pr n out
 | 0, _ => rfl
 | n + 1, out => by
  have e : idxP L (rdyI L out) = idxP N (rdyS N Pr out) := by
   rw [← hN, idxP_map, hN]
   exact idxP_congr fun z hz => h out z hz
  unfold arrI arrS
  rw [← e]
  by_cases h0 : 0 ≤ idxP L (rdyI L out)
  ·rw [if_pos h0, if_pos h0, arr_same hN h n]
   obtain ⟨h1, _⟩ := idxP_lt h0
   have h2 : (idxP L (rdyI L out)).toNat < N.length := by rw [← hN, List.length_map]; exact h1
   rw [getD_eq h1, getD_eq h2]
   simp only [← hN, List.getElem_map]
  ·rw [if_neg h0, if_neg h0]
theorem ar_same {e : Ex} {pos : Bool} (h : specOk e pos = true) : arI e pos = arS e pos := by
 obtain ⟨_, hn, _⟩ := specOk_node h
 have hN := eigI_names e pos [] hn
 have hd : (namesS e pos).Nodup := by
  unfold specOk at h
  rw [Bool.and_eq_true] at h
  exact (dec_iff.1 h.2).1
 have hP := pairS_mem e pos [] [] hn fun x => Iff.rfl
 unfold arI arS
 rw [arr_same hN fun out z hz => rdy_same hN hd hP out hz]
 congr 1
 rw [← hN, List.length_map]
set_option maxHeartbeats 400000 in
theorem eqStringS_c (xs ys : List Str) : FC Tryz.prog 44 [.one (strS xs), .one (strS ys)] [bD (same xs ys)] := by
 refine FC_wf (fun hw => ?_) Tryz.call44
 have hl : xs.length ≤ 9223372036854775807 := by simpa [wfDs, wfT] using hw.1.1
 have hl2 : ys.length ≤ 9223372036854775807 := by simpa [wfDs, wfT] using hw.2.1.1
 refine FC_of Tryz.call44 Tryz.func44 rfl (by kernel_rfl) (by simp only [rd, List.map_cons, List.map_nil, List.length_cons, List.length_nil, Tryz.ntmps44]; omega) ?_
 simp -implicitDefEqProofs only [go_sem, Tryz.results44]
 refine ⟨fun h => ?_, fun h => ?_⟩
 ·rw [same_no.2 (by rintro rfl; simp at h)]
 ·have hlen : xs.length = ys.length := by simp at h; omega
  refine loop_rule (fun k : Nat => hd [(0, vT (strS xs)), (1, vT (strS ys)), (4, vB false), (5, vI k)] [] []) (fun k => k ≤ xs.length ∧ same xs ys = same (xs.drop k) (ys.drop k)) (fun k => xs.length - k) 0 (weak_hd ?_) ?_ ?_
  ·simp -implicitDefEqProofs only [go_sem]
  ·simp
  ·intro k ⟨hk, hr⟩
   by_cases hlt : k < xs.length
   ·have hk2 : k < ys.length := by omega
    simp -implicitDefEqProofs only [go_sem, List.length_map, hlt]
    refine drawn (by kernel_rfl) ?_
    simp -implicitDefEqProofs only [go_sem, List.length_map, getD_at, hlt, hk2]
    refine ⟨by kernel_rfl, fun h => ?_, fun h => ?_⟩
    ·rw [hr, List.drop_eq_getElem_cons hlt, List.drop_eq_getElem_cons hk2, same_cons, show same xs[k] ys[k] = false from same_no.2 (by simpa using h)]; rfl
    ·rw [List.drop_eq_getElem_cons hlt, List.drop_eq_getElem_cons hk2, same_cons, show same xs[k] ys[k] = true from same_iff.2 (by simpa using h), Bool.true_and] at hr
     rw [wrap_s (by omega)]
     exact ⟨k + 1, ⟨by omega, hr⟩, by omega, weak_hd (by simp -implicitDefEqProofs only [go_sem])⟩
   ·simp -implicitDefEqProofs only [go_sem, List.length_map, hlt]
    rw [hr, List.drop_of_length_le (by omega), List.drop_of_length_le (by omega), same_nil]
theorem arrS_len (N : List Str) (Pr : List (Str × Str)) : ∀ n out, (arrS N Pr n out).1.length ≤ n + out.length
 | 0, out => by simp [arrS]
 | n + 1, out => by
  unfold arrS
  split
  ·have := arrS_len N Pr n (out ++ [N.getD (idxP N (rdyS N Pr out)).toNat []])
   rw [List.length_append] at this
   simp only [List.length_cons, List.length_nil] at this
   omega
  ·simp
theorem ctSs_is : ∀ xs : List Str, ctSs xs = 2 * xs.length
 | [] => rfl
 | a :: xs => by rw [ctSs, ctSs_is xs, ct1Ss, List.length_cons]; omega
def eoR (e : Ex) (pos : Bool) (ok : Bool) : List Str := if ok = true then (arS e pos).1 else []
theorem eoR_len (e : Ex) (pos : Bool) (ok : Bool) : (eoR e pos ok).length ≤ e.nodes := by
 unfold eoR arS
 split
 ·have := arrS_len (namesS e pos) (pairS e pos []) (namesS e pos).length []
  have := namesS_len e pos
  simp only [List.length_nil] at *
  omega
 ·simp
theorem implEO_c (e : Ex) (he : e.wt ≤ 1048576) (pos : Bool) : FC Tryz.prog 43 [exD e, bD pos] [.one (strS (eoR e pos (specOk e pos))), bD (specOk e pos && (arS e pos).2), bD (specOk e pos)] := by
 have H := implEigenOrder_c e he pos
 unfold eoR
 cases h : specOk e pos
 ·rw [h] at H
  exact H
 ·rw [h, ar_same h] at H
  exact H
set_option maxHeartbeats 4000000 in
theorem lawEigenOrder_c (e : Ex) (pos : Bool) : FC Tryz.prog 9 [exD e, bD pos] [bD true] := by
 have HZ := szExpansion_c e 1048576 (by omega) (by omega)
 simp only [exD, exC_eq e] at HZ ⊢
 refine FC_ofN Tryz.call9 Tryz.func9 rfl (by kernel_rfl) (by simp only [rd, List.map_cons, List.map_nil, List.length_cons, List.length_nil, Tryz.ntmps9]; omega) ?_
 simp -implicitDefEqProofs only [go_sem, Tryz.results9]
 refine callF (HZ) (by simp -implicitDefEqProofs only [go_sem]) ?_
 simp -implicitDefEqProofs only [go_sem]
 refine ⟨fun h => trivial, fun h => ?_⟩
 have hw : e.wt ≤ 1048576 := by have := (szR_pos (by simpa using h)).1; omega
 have HS : FC Tryz.prog 42 [exD e, bD pos] [.one (strS (eoR e pos (specOk e pos))), bD (specOk e pos && (arS e pos).2), bD (specOk e pos)] := specEigenOrder_c e hw pos
 have HI := implEO_c e hw pos
 have HT := toExpansion_c e hw
 have HE := eqExpansion_c e e
 have hrl := eoR_len e pos (specOk e pos)
 have hen := enodes_wt e
 generalize (specOk e pos && (arS e pos).2) = G2 at HS HI
 generalize eoR e pos (specOk e pos) = R at HS HI hrl
 generalize specOk e pos = G at HS HI
 have HF := eqStringS_c R R
 simp only [exD, exC_eq e] at HS HI HT HE
 refine callF (HT) (by simp -implicitDefEqProofs only [go_sem]) ?_
 simp -implicitDefEqProofs only [go_sem]
 refine callF (HS) (by simp -implicitDefEqProofs only [go_sem]) ?_
 simp -implicitDefEqProofs only [go_sem]
 refine callF (HT) (by simp -implicitDefEqProofs only [go_sem]) ?_
 simp -implicitDefEqProofs only [go_sem]
 refine callF (HI) (by simp -implicitDefEqProofs only [go_sem]) ?_
 simp -implicitDefEqProofs only [go_sem]
 refine callF (HF) (by simp -implicitDefEqProofs only [go_sem, same_self, beq_self_eq_true, Bool.not_true]) ?_
 simp -implicitDefEqProofs only [go_sem, same_self, beq_self_eq_true, Bool.not_true]
 refine drawn (by kernel_rfl) ?_
 simp -implicitDefEqProofs only [go_sem]
 refine dCallF (HT) (by simp -implicitDefEqProofs only [go_sem]) ?_
 simp -implicitDefEqProofs only [go_sem]
 refine dCallF (HE) (by simp -implicitDefEqProofs only [go_sem]) ?_
 simp -implicitDefEqProofs only [go_sem]
 refine ⟨by kernel_rfl, fun h => ?_, fun _ => ?_⟩
 ·simp [same_self] at h
 have hc := ctTExpansion_wt e
 have hcR := ctSs_is R
 have HM := markExpansion_c e 1 (by omega) (by omega)
 have HM2 := markStringS_c R 1 (by omega) (by omega)
 have HL := heldStringS_c R 1 (by omega) (by omega)
 have hm := (mkTExpansion_ct e 1).1
 have hmR := (mkSs_ct R 1).1
 rw [mkTExpansion_cells] at HM
 generalize (mkTExpansion e 1).2 = k1 at HM hm
 generalize (mkSs R 1).2 = k2 at HM2 HL hmR
 generalize (mkSs R 1).1 = r1 at HM2 HL
 generalize (mkTExpansion e 1).1.form.atom.args = f2 at HM
 generalize (mkTExpansion e 1).1.form.parts = f5 at HM
 generalize (mkTExpansion e 1).1.terms = f6 at HM
 generalize (mkTExpansion e 1).1.parts = f7 at HM
 rw [exC_eq] at HM
 refine callIdL [1, 2, 4, 6, 7, 8, 9, 10, 11, 12, 60, 61] (HM) (by simp -implicitDefEqProofs only [go_sem]) (by simp -implicitDefEqProofs only [go_sem]) (by simp -implicitDefEqProofs only [go_sem]) (by simp -implicitDefEqProofs only [go_sem]) (by simp -implicitDefEqProofs only [go_sem]) rfl ?_
 simp -implicitDefEqProofs only [go_sem]
 refine callF (HF) (by simp -implicitDefEqProofs only [go_sem, same_self, beq_self_eq_true, Bool.not_true]) ?_
 simp -implicitDefEqProofs only [go_sem, same_self, beq_self_eq_true, Bool.not_true]
 refine callIdL [1, 2, 4, 6, 7, 8, 10, 11, 12, 81, 82] (HM2) (by simp -implicitDefEqProofs only [go_sem]) (by simp -implicitDefEqProofs only [go_sem]) (by simp -implicitDefEqProofs only [go_sem]) (by simp -implicitDefEqProofs only [go_sem]) (by simp -implicitDefEqProofs only [go_sem]) rfl ?_
 simp -implicitDefEqProofs only [go_sem]
 refine callF (HL) (by simp -implicitDefEqProofs only [go_sem]) ?_
 simp -implicitDefEqProofs only [go_sem]
 refine ⟨fun h => by simp at h, fun _ => ?_⟩
 refine callF (HT) (by simp -implicitDefEqProofs only [go_sem]) ?_
 simp -implicitDefEqProofs only [go_sem]
 refine callF (HI) (by simp -implicitDefEqProofs only [go_sem]) ?_
 simp -implicitDefEqProofs only [go_sem]
 refine callF (HF) (by simp -implicitDefEqProofs only [go_sem, same_self, beq_self_eq_true, Bool.not_true]) ?_
 simp -implicitDefEqProofs only [go_sem, same_self, beq_self_eq_true, Bool.not_true]
 refine callF (HL) (by simp -implicitDefEqProofs only [go_sem]) ?_
 simp -implicitDefEqProofs only [go_sem]
 refine ⟨fun h => by simp at h, fun _ => trivial⟩
end Go.Proofs.YtbccfiillleimaaGreat
namespace Go.Proofs.YtbccfiillleimaaGreat
set_option linter.unusedSimpArgs false
set_option linter.unusedVariables false
set_option linter.unusedSectionVars false
set_option maxRecDepth 4000
open Go.ChangeShapes Go.WideShapes Go.ChangeAt Go.RowKit
theorem reige_own : ownKnob Tryz.prog.godebug = none := by kernel_rfl
theorem reige_laidOut : laidOutB Tryz.prog = true := by kernel_rfl
def reigeTypes (t : TypeId) : Bool := t == 3 || t == 9 || t == 24 || t == 22 || t == 27 || t == 25 || t == 56 || t == 54 || t == 4
theorem reigeTypes_ok : ∀ t, reigeTypes t = true → typeOk Tryz.prog reigeTypes t = true := by
 intro t h
 simp only [reigeTypes, Bool.or_eq_true, beq_iff_eq] at h
 rcases h with (((((((rfl | rfl) | rfl) | rfl) | rfl) | rfl) | rfl) | rfl) | rfl <;> kernel_rfl
set_option maxRecDepth 100000 in
theorem reige_lifted (os : Os) (started : os.Started) (H : Type) (enc : TypeId × Value → H) :
  ReturnsInHanded {} Tryz.checked os 9 .any (Rows.fnExactEigenOrderSpec.pre6 enc Tryz.prog Tryz.f9 Rows.fnExactEigenOrderRow.domain false)
   (Rows.fnExactEigenOrderSpec.post enc Tryz.prog Tryz.f9 false true false false) := by
 refine returnsInHanded_of_change (C := Tryz.checked) reige_own started (by kernel_rfl) Tryz.func9
  (ChangeSpec.witness6 (enc := enc) (C := Tryz.checked) false ⟨#[], #[.agg #[.int .i64 0, .string .empty, .slice none 0 0, .string .empty, .slice none 0 0, .slice none 0 0, .slice none 0 0], .bool false], []⟩ 8 (by kernel_rfl) (by kernel_rfl) (by kernel_rfl) (by kernel_rfl)) ?_
 intro W base args ds gs before hval0 hW hcnd _
 have hval : ∀ (j : Nat) t v, Tryz.f9.params[j]? = some t → args[j]? = some v → Value.okWide Tryz.prog W .any base t v := hval0
 have hW' := hW
 obtain ⟨p, q, hA0, hV, rfl, hfz, hnd⟩ := hW
 have hA : DataW.TrodAll enc Tryz.prog W 0 (fun _ => true) true Tryz.f9.params.toList args.toList ds p := hA0
 rw [Tryz.params9] at hA hval
 obtain ⟨v0, vs0, d0, ds0, p0, q0, hargs, rfl, rfl, h0, r0⟩ := trodAll_cons hA
 obtain ⟨v1, vs1, d1, ds1, p1, q1, rfl, rfl, rfl, h1, r1⟩ := trodAll_cons r0
 obtain ⟨rfl, rfl, rfl⟩ := trodAll_nil r1
 obtain rfl : args = #[v0, v1] := by cases args; simp_all
 obtain ⟨rfl, rfl⟩ := trodVars_none hV
 have k0 := h0
 have k1 := h1
 have lt0 : ∀ x ∈ p0, x.block < W.heap.size := by obtain ⟨m, hm⟩ := k0; exact DataW.trod_lt m _ _ _ hm
 have lt1 : ∀ x ∈ p1, x.block < W.heap.size := by obtain ⟨m, hm⟩ := k1; exact DataW.trod_lt m _ _ _ hm
 obtain ⟨cs0, rfl, _⟩ := okWide_struct Tryz.underlying56 (hval 0 56 v0 rfl rfl)
 obtain ⟨s1, rfl⟩ := okWide_bool Tryz.underlying4 (hval 1 4 v1 rfl rfl)
 obtain ⟨s0, hs0⟩ : ∃ s : Ex, RepD W (· < W.heap.size) (exD s) (.agg cs0) := by
  obtain ⟨m, hm⟩ := h0
  obtain ⟨d, hr, hs⟩ := rep_of_trod reigeTypes_ok m _ _ _ (by rfl) hm
  obtain ⟨s, e⟩ := sh_expansion _ hs
  exact ⟨s, cs0.toList, rfl, e ▸ hr⟩
 have hs1 : RepD W (· < W.heap.size) (bD s1) (.bool s1) := rfl
 have hs : RepDs W (· < W.heap.size) [exD s0, bD s1] [.agg cs0, .bool s1] := ⟨_, _, rfl, hs0, _, _, rfl, hs1, rfl⟩
 clear hA0 hval0
 refine ((lawEigenOrder_c s0 s1).use (vs := [.agg cs0, .bool s1]) hs).mono fun e W' ⟨us, fp, he, ho, _, _, bel⟩ => ?_
 obtain ⟨u, us', f1, f2, rfl, _, ⟨rfl, _⟩, hu⟩ := ho
 obtain ⟨rfl, _⟩ := hu
 subst he
 exact ⟨_, rfl, _, _, _, [], _, [], hW', trodAll_mk1 (shut_bool Tryz.underlying4 _),
  (trodAll_cons_mk (Below.trod reige_laidOut (by kernel_rfl) (of_decide_eq_true (by kernel_rfl)) k0 bel lt0) (trodAll_cons_mk (Below.trod reige_laidOut (by kernel_rfl) (of_decide_eq_true (by kernel_rfl)) k1 bel lt1) trodAll_mk0)), rfl, bel.frame _, fun h => by cases h⟩
theorem reige_h0 : (Rows.fnExactEigenOrderRow.wf (OpenSpec.ofChange Rows.fnExactEigenOrderSpec)) = true := by kernel_rfl
theorem reige_h1 : (laidOutB Tryz.checked.prog) = true := by kernel_rfl
theorem reige_h2 : (mapsRowed Tryz.checked.prog) = true := by kernel_rfl
theorem reige_h3 : (Tryz.f9.params.all (Tryz.checked.prog.readableRec ·)) = true := by kernel_rfl
theorem reige_h4 : (namedTie Tryz.checked.prog Rows.fnExactEigenOrderRow.named Rows.fnExactEigenOrderSpec.vars) = true := by kernel_rfl
theorem reige_h5 : ((Rows.fnExactEigenOrderRow.stops == [])) = true := by kernel_rfl
theorem reige_h6 : ((Tryz.checked.prog.stops == [])) = true := by kernel_rfl
theorem reige_h7 : ((Rows.fnExactEigenOrderRow.knobs == [])) = true := by kernel_rfl
theorem reige_h8 : ((Tryz.checked.prog.stopKnobs == [])) = true := by kernel_rfl
theorem reige_h9 : ((Rows.fnExactEigenOrderRow.inPlace == Tryz.checked.prog.inPlace 9)) = true := by kernel_rfl
theorem reige_h10 : ((Rows.fnExactEigenOrderRow.unfollowed == Tryz.checked.prog.unfollowed 9)) = true := by kernel_rfl
theorem reige_h11 : ((Rows.fnExactEigenOrderRow.recurses == Tryz.checked.prog.recurses 9)) = true := by kernel_rfl
theorem reige_h12 : ((Rows.fnExactEigenOrderRow.named == Tryz.checked.prog.varsNamed 9)) = true := by kernel_rfl
theorem reige_h13 : ((Rows.fnExactEigenOrderRow.maps == (Tryz.f9.params.toList ++ Rows.fnExactEigenOrderSpec.plain.varTypes Tryz.checked.prog).any (Tryz.checked.prog.mapsRec ·))) = true := by kernel_rfl
theorem reige_h14 : ((Rows.fnExactEigenOrderRow.ifaces == (Tryz.f9.params.toList ++ Rows.fnExactEigenOrderSpec.plain.varTypes Tryz.checked.prog).any (Tryz.checked.prog.ifacesRec ·))) = true := by kernel_rfl
theorem reige_h15 : ((Rows.fnExactEigenOrderRow.mapsOut == Tryz.checked.prog.mapsAmong Tryz.f9.resultTypes.toList)) = true := by kernel_rfl
theorem reige_h16 : ((Rows.fnExactEigenOrderRow.loops == (Tryz.f9.params.toList ++ Rows.fnExactEigenOrderSpec.plain.varTypes Tryz.checked.prog).any (Tryz.checked.prog.loopsFrom ·))) = true := by kernel_rfl
theorem reige_h17 : ((Rows.fnExactEigenOrderRow.wideKeys == (Tryz.f9.params.toList ++ Rows.fnExactEigenOrderSpec.plain.varTypes Tryz.checked.prog ++ Tryz.f9.resultTypes.toList).any (Tryz.checked.prog.wideKeysFrom ·))) = true := by kernel_rfl
theorem reige_h18 : (Rows.fnExactEigenOrderSpec.vars.all (Tryz.checked.prog.varReadable ·)) = true := by kernel_rfl
theorem reige_h19 : (Tryz.f9.resultTypes.all (fun t => Tryz.checked.prog.readableRec t && decide (t < Tryz.checked.prog.types.size))) = true := by kernel_rfl
theorem reige_h20 : ((Rows.fnExactEigenOrderRow.ifacesOut == Tryz.f9.resultTypes.toList.any (Tryz.checked.prog.ifacesRec ·))) = true := by kernel_rfl
theorem reige_h21 : ((Rows.fnExactEigenOrderRow.loopsOut == Tryz.f9.resultTypes.toList.any (Tryz.checked.prog.loopsFrom ·))) = true := by kernel_rfl
theorem reige_h22 : ((Rows.fnExactEigenOrderRow.plainKeys == Tryz.checked.prog.plainKeys)) = true := by kernel_rfl
theorem reige_h23 : (Rows.fnExactEigenOrderRow.shortTexts.isNone) = true := by kernel_rfl
theorem reige_h24 : (Tryz.checked.prog.stopsHeard) = true := by kernel_rfl
theorem reige_h25 : (Tryz.checked.prog.mayEnter) = true := by kernel_rfl
theorem reige_h26 : ((Rows.fnExactEigenOrderRow.lifted == Tryz.checked.prog.liftsFinal)) = true := by kernel_rfl
theorem reige_h27 : ((Tryz.checked.prog.make == some Rows.fnExactEigenOrderRow.make)) = true := by kernel_rfl
theorem reige_h28 : ((Rows.fnExactEigenOrderRow.kinds == (if Rows.fnExactEigenOrderRow.domain.isEmpty then [] else Tryz.f9.params.toList.map fun t => match Tryz.checked.prog.underlying t with | some (.int k) => some k | _ => none))) = true := by kernel_rfl
theorem reige_h29 : ((Rows.fnExactEigenOrderRow.pinned == Rows.fnExactEigenOrderRow.pinnedBy)) = true := by kernel_rfl
theorem reige_h30 : ((Rows.fnExactEigenOrderRow.veiled == (Tryz.f9.params.toList ++ Rows.fnExactEigenOrderSpec.plain.varTypes Tryz.checked.prog ++ Tryz.f9.resultTypes.toList).any (Tryz.checked.prog.veiledRec ·))) = true := by kernel_rfl
theorem reige_h31 : (Rows.fnExactEigenOrderRow.veiledFits Tryz.checked.prog Tryz.f9.params.toList (Tryz.f9.params.toList ++ Rows.fnExactEigenOrderSpec.plain.varTypes Tryz.checked.prog ++ Tryz.f9.resultTypes.toList)) = true := by kernel_rfl
theorem reige_closed : joinedFacts Tryz.checked.prog 9 Tryz.f9 Rows.fnExactEigenOrderSpec Rows.fnExactEigenOrderRow = true := by
 unfold joinedFacts
 simp only [Bool.and_eq_true]
 exact ⟨⟨⟨⟨⟨⟨⟨⟨⟨⟨⟨⟨⟨⟨⟨⟨⟨⟨⟨⟨⟨⟨⟨⟨⟨⟨⟨⟨⟨⟨⟨reige_h0, reige_h1⟩, reige_h2⟩, reige_h3⟩, reige_h4⟩, reige_h5⟩, reige_h6⟩, reige_h7⟩, reige_h8⟩, reige_h9⟩, reige_h10⟩, reige_h11⟩, reige_h12⟩, reige_h13⟩, reige_h14⟩, reige_h15⟩, reige_h16⟩, reige_h17⟩, reige_h18⟩, reige_h19⟩, reige_h20⟩, reige_h21⟩, reige_h22⟩, reige_h23⟩, reige_h24⟩, reige_h25⟩, reige_h26⟩, reige_h27⟩, reige_h28⟩, reige_h29⟩, reige_h30⟩, reige_h31⟩
theorem eigenOrder_holds : Rows.FnExactEigenOrderSaid :=
 OpenClaim.holds_of_wide 9 Tryz.f9 rfl rfl rfl rfl rfl rfl rfl ⟨rfl, rfl, rfl, rfl, rfl⟩ rfl rfl rfl rfl rfl (by kernel_rfl) Tryz.func9 reige_closed
  (of_decide_eq_true (by kernel_rfl)) (by unfold Func.isWrapper; rw [if_neg (of_decide_eq_false (by kernel_rfl))]; exact ⟨rfl, rfl⟩)
  (fun os started H enc _ => reige_lifted os started H enc)
#print axioms eigenOrder_holds
end Go.Proofs.YtbccfiillleimaaGreat
