/-
  The walk over plain data, and contracts of functions of the program and of its laws.
  Conditions: those that each theorem names.
-/
import Derived.Test.YtbccfiillleimaaGreatQ6
import Derived.Test.YtbccfiillleimaaGreatQ5
import Derived.RangeFuncNested
import Derived.RangeFuncBound
import Derived.RangeFuncCalls
import Derived.TacticsInMore
import Derived.LoopNIn
import Derived.LoopIn
namespace Go.Proofs.YtbccfiillleimaaGreat
set_option linter.unusedSimpArgs false
set_option linter.unusedVariables false
set_option linter.unusedSectionVars false
set_option maxRecDepth 4000
open Go.RowKit
theorem same_tm (a b : Tm) : same a b = (same a.name b.name && same a.args b.args) := by
 cases a; cases b
 rw [Bool.eq_iff_iff]
 simp only [Bool.and_eq_true, same_iff, Tm.name, Tm.args, Tm.mk.injEq]
theorem same_fm (a b : Fm) : same a b = (same a.op b.op && same a.atom b.atom && same a.var b.var && same a.parts b.parts) := by
 cases a; cases b
 rw [Bool.eq_iff_iff]
 simp only [Bool.and_eq_true, same_iff, Fm.op, Fm.atom, Fm.var, Fm.parts, Fm.mk.injEq, and_assoc]
theorem same_beq {α : Type} [BEq α] [LawfulBEq α] (a b : α) : (a == b) = same a b := by
 rw [Bool.eq_iff_iff, beq_iff_eq, same_iff]
theorem eqTerms_of (a b : Tm) (H : FC Tryz.prog 176 [.one (tmS a.args), .one (tmS b.args), .one (.fn 169 [])] [bD (same a.args b.args)]) :
  FC Tryz.prog 169 [tmD a, tmD b] [bD (same a b)] := by
 simp only [tmD, tmC_eq]
 refine FC_of Tryz.call169 Tryz.func169 rfl (by kernel_rfl) (by simp only [rd, List.map_cons, List.map_nil, List.length_cons, List.length_nil, Tryz.ntmps169]; omega) ?_
 simp -implicitDefEqProofs only [go_sem, Tryz.results169]
 refine ⟨fun h => ?_, fun h => ?_⟩
 ·refine callF (H) (by simp -implicitDefEqProofs only [go_sem]) ?_
  simp -implicitDefEqProofs only [go_sem]
  rw [same_tm, ← same_beq a.name, h, Bool.true_and]
 ·rw [same_tm, ← same_beq a.name, h]; rfl
theorem equalTerms_c : ∀ a b : Tm, FC Tryz.prog 169 [tmD a, tmD b] [bD (same a b)] :=
 tm_ind fun n xs ih b => eqTerms_of (.mk n xs) b (by
  rw [show same (Tm.mk n xs).args b.args = eqL same (Tm.mk n xs).args b.args from (eqL_same fun _ _ _ => rfl).symm]
  exact equalFuncTerm_c xs b.args same _ [] fun x hx y _ => ih x hx y)
theorem sameFormula_of (a b : Fm) (H : FC Tryz.prog 175 [.one (fmS a.parts), .one (fmS b.parts), .one (.fn 110 [])] [bD (same a.parts b.parts)]) :
  FC Tryz.prog 110 [fmD a, fmD b] [bD (same a b)] := by
 simp only [fmD, fmC_eq]
 refine FC_of Tryz.call110 Tryz.func110 rfl (by kernel_rfl) (by simp only [rd, List.map_cons, List.map_nil, List.length_cons, List.length_nil, Tryz.ntmps110]; omega) ?_
 simp -implicitDefEqProofs only [go_sem, Tryz.results110]
 refine ⟨fun h1 => ?_, fun h1 => by rw [same_fm, ← same_beq a.op, h1]; rfl⟩
 refine callF (equalTerms_c a.atom b.atom) (by simp -implicitDefEqProofs only [go_sem, tmC_eq]) ?_
 simp -implicitDefEqProofs only [go_sem, tmC_eq]
 refine ⟨fun h2 => ?_, fun h2 => by rw [same_fm, ← same_beq a.op, h1, h2]; rfl⟩
 refine ⟨fun h3 => ?_, fun h3 => by rw [same_fm, ← same_beq a.op, h1, h2, ← same_beq a.var, h3]; rfl⟩
 refine callF (H) (by simp -implicitDefEqProofs only [go_sem]) ?_
 simp -implicitDefEqProofs only [go_sem]
 rw [same_fm, ← same_beq a.op, h1, h2, ← same_beq a.var, h3]; rfl
theorem sameFormula_c : ∀ a b : Fm, FC Tryz.prog 110 [fmD a, fmD b] [bD (same a b)] :=
 fm_ind fun o t v ps ih b => sameFormula_of (.mk o t v ps) b (by
  rw [show same (Fm.mk o t v ps).parts b.parts = eqL same (Fm.mk o t v ps).parts b.parts from (eqL_same fun _ _ _ => rfl).symm]
  exact equalFuncFormula_c ps b.parts same _ [] fun x hx y _ => ih x hx y)
theorem l2Same_of (a b : Tm) (H : ∀ x ∈ a.args, ∀ y, FC Tryz.prog 164 [tmD x, tmD y] [bD (same x y)]) : FC Tryz.prog 164 [tmD a, tmD b] [bD (same a b)] := by
 refine FC_wf (fun hw => ?_) Tryz.call164
 simp only [tmD, tmC_eq] at hw ⊢
 have hl : a.args.length ≤ 9223372036854775807 := by simp [wfDs, wfT, wfTs] at hw; exact hw.1.2.1
 refine FC_of Tryz.call164 Tryz.func164 rfl (by kernel_rfl) (by simp only [rd, List.map_cons, List.map_nil, List.length_cons, List.length_nil, Tryz.ntmps164]; omega) ?_
 simp -implicitDefEqProofs only [go_sem, Tryz.results164]
 refine ⟨fun h1 => ?_, fun h1 => by rw [same_tm, ← same_beq a.name, show (a.name == b.name) = false by simpa using h1]; rfl⟩
 have h1' : same a.name b.name = true := by rw [← same_beq]; simpa using h1
 refine ⟨fun h2 => ?_, fun h2 => ?_⟩
 ·rw [same_tm, h1', Bool.true_and, same_no.2 (by rintro e; simp [e] at h2)]
 have hlen : a.args.length = b.args.length := by simp at h2; omega
 have hs : same a b = same a.args b.args := by rw [same_tm, h1', Bool.true_and]
 refine loop_rule (fun k : Nat => hd [(2, .one (.bx 2 0)), (3, .one (.bx 3 0)), (4, vB false), (5, vI k)] [(2, [.t (.str a.name), .t (tmS a.args)]), (3, [.t (.str b.name), .t (tmS b.args)])] []) (fun k => k ≤ a.args.length ∧ same a.args b.args = same (a.args.drop k) (b.args.drop k)) (fun k => a.args.length - k) 0 (weak_hd ?_) ?_ ?_
 ·simp -implicitDefEqProofs only [go_sem]
 ·simp
 ·intro k ⟨hk, hr⟩
  by_cases hlt : k < a.args.length
  ·have hk2 : k < b.args.length := by omega
   simp -implicitDefEqProofs only [go_sem, hlt]
   refine drawn (by kernel_rfl) ?_
   simp -implicitDefEqProofs only [go_sem, getD_at, hlt, hk2, tmC_eq]
   refine dCallF (H a.args[k] (List.getElem_mem hlt) b.args[k]) (by simp -implicitDefEqProofs only [go_sem, tmC_eq]) ?_
   simp -implicitDefEqProofs only [go_sem, tmC_eq]
   rw [List.drop_eq_getElem_cons hlt, List.drop_eq_getElem_cons hk2, same_cons] at hr
   refine ⟨by kernel_rfl, fun h => ?_, fun h => ?_⟩
   ·rw [hs, hr, show same a.args[k] b.args[k] = false by simpa using h]; rfl
   ·rw [show same a.args[k] b.args[k] = true by simpa using h, Bool.true_and] at hr
    rw [wrap_s (by omega)]
    exact ⟨k + 1, ⟨by omega, hr⟩, by omega, weak_hd (by simp -implicitDefEqProofs only [go_sem])⟩
  ·simp -implicitDefEqProofs only [go_sem, hlt]
   rw [hs, hr, List.drop_of_length_le (by omega), List.drop_of_length_le (by omega), same_nil]
theorem l2Same_c : ∀ a b : Tm, FC Tryz.prog 164 [tmD a, tmD b] [bD (same a b)] := tm_ind fun n xs ih b => l2Same_of (.mk n xs) b ih
set_option maxHeartbeats 1000000 in
theorem l8Same_of (a b : Fm) (H : ∀ x ∈ a.parts, ∀ y, FC Tryz.prog 108 [fmD x, fmD y] [bD (same x y)]) : FC Tryz.prog 108 [fmD a, fmD b] [bD (same a b)] := by
 refine FC_wf (fun hw => ?_) Tryz.call108
 simp only [fmD, fmC_eq] at hw ⊢
 have hl : a.parts.length ≤ 9223372036854775807 := by simp [wfDs, wfT, wfTs] at hw; exact hw.1.2.2.2.2.1
 refine FC_of Tryz.call108 Tryz.func108 rfl (by kernel_rfl) (by simp only [rd, List.map_cons, List.map_nil, List.length_cons, List.length_nil, Tryz.ntmps108]; omega) ?_
 simp -implicitDefEqProofs only [go_sem, Tryz.results108]
 refine ⟨fun h1 => ?_, fun h1 => by rw [same_fm, ← same_beq a.op, show (a.op == b.op) = false by simpa using h1]; rfl⟩
 have h1' : same a.op b.op = true := by rw [← same_beq]; simpa using h1
 refine ⟨fun h2 => ?_, fun h2 => by rw [same_fm, h1', ← same_beq a.var, show (a.var == b.var) = false by simpa using h2]; simp⟩
 have h2' : same a.var b.var = true := by rw [← same_beq]; simpa using h2
 refine callF (l2Same_c a.atom b.atom) (by simp -implicitDefEqProofs only [go_sem, tmC_eq]) ?_
 simp -implicitDefEqProofs only [go_sem, tmC_eq]
 refine ⟨fun h3 => ?_, fun h3 => by rw [same_fm, h1', show same a.atom b.atom = false by simpa using h3]; rfl⟩
 have h3' : same a.atom b.atom = true := by simpa using h3
 have hs : same a b = same a.parts b.parts := by rw [same_fm, h1', h2', h3']; rfl
 refine ⟨fun h4 => ?_, fun h4 => ?_⟩
 ·rw [hs, same_no.2 (by rintro e; simp [e] at h4)]
 have hlen : a.parts.length = b.parts.length := by simp at h4; omega
 refine loop_rule (fun k : Nat => hd [(2, .one (.bx 2 0)), (3, .one (.bx 3 0)), (4, vB false), (5, vI k)] [(2, [.t (.int .i64 a.op), .t (.str a.atom.name), .t (tmS a.atom.args), .t (.str a.var), .t (fmS a.parts)]), (3, [.t (.int .i64 b.op), .t (.str b.atom.name), .t (tmS b.atom.args), .t (.str b.var), .t (fmS b.parts)])] []) (fun k => k ≤ a.parts.length ∧ same a.parts b.parts = same (a.parts.drop k) (b.parts.drop k)) (fun k => a.parts.length - k) 0 (weak_hd ?_) ?_ ?_
 ·simp -implicitDefEqProofs only [go_sem]
 ·simp
 ·intro k ⟨hk, hr⟩
  by_cases hlt : k < a.parts.length
  ·have hk2 : k < b.parts.length := by omega
   simp -implicitDefEqProofs only [go_sem, hlt]
   refine drawn (by kernel_rfl) ?_
   simp -implicitDefEqProofs only [go_sem, getD_at, hlt, hk2, fmC_eq]
   refine dCallF (H a.parts[k] (List.getElem_mem hlt) b.parts[k]) (by simp -implicitDefEqProofs only [go_sem, fmC_eq]) ?_
   simp -implicitDefEqProofs only [go_sem, fmC_eq]
   rw [List.drop_eq_getElem_cons hlt, List.drop_eq_getElem_cons hk2, same_cons] at hr
   refine ⟨by kernel_rfl, fun h => ?_, fun h => ?_⟩
   ·rw [hs, hr, show same a.parts[k] b.parts[k] = false by simpa using h]; rfl
   ·rw [show same a.parts[k] b.parts[k] = true by simpa using h, Bool.true_and] at hr
    rw [wrap_s (by omega)]
    exact ⟨k + 1, ⟨by omega, hr⟩, by omega, weak_hd (by simp -implicitDefEqProofs only [go_sem])⟩
  ·simp -implicitDefEqProofs only [go_sem, hlt]
   rw [hs, hr, List.drop_of_length_le (by omega), List.drop_of_length_le (by omega), same_nil]
theorem l8Same_c : ∀ a b : Fm, FC Tryz.prog 108 [fmD a, fmD b] [bD (same a b)] := fm_ind fun o t v ps ih b => l8Same_of (.mk o t v ps) b ih
end Go.Proofs.YtbccfiillleimaaGreat
namespace Go.Proofs.YtbccfiillleimaaGreat
set_option linter.unusedSimpArgs false
set_option linter.unusedVariables false
set_option linter.unusedSectionVars false
set_option maxRecDepth 4000
open Go.RowKit
def mkF (op : Int) (ps : List Fm) : Fm := .mk op (.mk [] []) [] ps
theorem fmC_mkF (op : Int) (ps : List Fm) : fmC (mkF op ps) = [.int .i64 op, .str [], .sl 2 [], .str [], .sl 5 (ps.map fmC)] := fmC_eq _
end Go.Proofs.YtbccfiillleimaaGreat
namespace Go.Proofs.YtbccfiillleimaaGreat
set_option linter.unusedSimpArgs false
set_option linter.unusedVariables false
set_option linter.unusedSectionVars false
set_option maxRecDepth 4000
open Go.RowKit
set_option maxHeartbeats 4000000 in
theorem hasForm_of (f : Fm) (hs : f.wt ≤ 1099511627776) (H : ∀ x ∈ f.parts, FC Tryz.prog 184 [fmD x] [bD x.forms]) : FC Tryz.prog 184 [fmD f] [bD f.forms] := by
 have H1 : ∀ x ∈ f.parts, FC Tryz.prog 221 [fmD x] [bD (!x.forms)] := fun x hx => by
  simp only [fmD, fmC_eq]
  refine FC_of Tryz.call221 Tryz.func221 rfl (by kernel_rfl) (by simp only [rd, List.map_cons, List.map_nil, List.length_cons, List.length_nil, Tryz.ntmps221]; omega) ?_
  simp -implicitDefEqProofs only [go_sem, Tryz.results221]
  refine callF (H x hx) (by simp -implicitDefEqProofs only [go_sem, fmC_eq]) ?_
  simp -implicitDefEqProofs only [go_sem, fmC_eq]
 have hN := f.forms_eq
 obtain ⟨o, a, v, ps⟩ := f
 have ha : a.wt ≤ 1099511627776 := Nat.le_trans (atom_wt (.mk o a v ps)) hs
 have e0 : ((ps.length : Int) != 0) = !decide (ps.length = 0) := len_bne _ 0
 have e1 : ((ps.length : Int) != 1) = !decide (ps.length = 1) := len_bne _ 1
 have e2 : ((ps.length : Int) != 2) = !decide (ps.length = 2) := len_bne _ 2
 simp only [Fm.parts] at H1 hN
 rcases op_cases o with rfl | rfl | rfl | rfl | rfl | rfl | rfl | rfl | rfl | ⟨n1, n2, n3, n4, n5, n6, n7, n8, n9⟩
 ·have hH : Fm.here (.mk 1 a v ps) = (decide (ps.length = 0) && a.none && (v == [])) := rfl
  rw [hH] at hN
  have hq : isQ 1 = false := rfl
  have hb : isBi 1 = false := rfl
  simp only [fmD, fmC_eq, Fm.op, Fm.atom, Fm.var, Fm.parts]
  refine FC_of Tryz.call184 Tryz.func184 rfl (by kernel_rfl) (by simp only [rd, List.map_cons, List.map_nil, List.length_cons, List.length_nil, Tryz.ntmps184]; omega) ?_
  simp -implicitDefEqProofs only [go_sem, Tryz.results184]
  simp only [e0]
  refine ⟨fun h => ?_, fun h => ?_⟩
  ·have h' : decide (ps.length = 0) = true := by simpa using h
   refine callF (isQuantifier_c 1) (by simp -implicitDefEqProofs only [go_sem, hq]) ?_
   simp -implicitDefEqProofs only [go_sem, hq]
   refine callF (isQuantifier_c 1) (by simp -implicitDefEqProofs only [go_sem, hq]) ?_
   simp -implicitDefEqProofs only [go_sem, hq]
   refine ⟨fun h1 => ?_, fun h1 => ?_⟩
   ·rw [hN, show (v == []) = false by simpa using h1, Bool.and_false, Bool.false_and]
   ·have h1' : (v == []) = true := by simpa using h1
    refine callF (isZeroTerm_c a) (by simp -implicitDefEqProofs only [go_sem, tmC_eq]) ?_
    simp -implicitDefEqProofs only [go_sem, tmC_eq]
    refine ⟨fun h2 => ?_, fun h2 => ?_⟩
    ·rw [hN, show a.none = false by simpa using h2, Bool.and_false, Bool.false_and, Bool.false_and]
    ·have h2' : a.none = true := by simpa using h2
     refine callF (containsFuncFormula_c ps (fun x => !x.forms) _ [] H1) (by simp -implicitDefEqProofs only [go_sem]) ?_
     simp -implicitDefEqProofs only [go_sem]
     rw [not_any, hN, h', h1', h2']; rfl
  ·rw [hN, show decide (ps.length = 0) = false by simpa using h]; rfl
 ·have hH : Fm.here (.mk 2 a v ps) = (decide (ps.length = 0) && a.none && (v == [])) := rfl
  rw [hH] at hN
  have hq : isQ 2 = false := rfl
  have hb : isBi 2 = false := rfl
  simp only [fmD, fmC_eq, Fm.op, Fm.atom, Fm.var, Fm.parts]
  refine FC_of Tryz.call184 Tryz.func184 rfl (by kernel_rfl) (by simp only [rd, List.map_cons, List.map_nil, List.length_cons, List.length_nil, Tryz.ntmps184]; omega) ?_
  simp -implicitDefEqProofs only [go_sem, Tryz.results184]
  simp only [e0]
  refine ⟨fun h => ?_, fun h => ?_⟩
  ·have h' : decide (ps.length = 0) = true := by simpa using h
   refine callF (isQuantifier_c 2) (by simp -implicitDefEqProofs only [go_sem, hq]) ?_
   simp -implicitDefEqProofs only [go_sem, hq]
   refine callF (isQuantifier_c 2) (by simp -implicitDefEqProofs only [go_sem, hq]) ?_
   simp -implicitDefEqProofs only [go_sem, hq]
   refine ⟨fun h1 => ?_, fun h1 => ?_⟩
   ·rw [hN, show (v == []) = false by simpa using h1, Bool.and_false, Bool.false_and]
   ·have h1' : (v == []) = true := by simpa using h1
    refine callF (isZeroTerm_c a) (by simp -implicitDefEqProofs only [go_sem, tmC_eq]) ?_
    simp -implicitDefEqProofs only [go_sem, tmC_eq]
    refine ⟨fun h2 => ?_, fun h2 => ?_⟩
    ·rw [hN, show a.none = false by simpa using h2, Bool.and_false, Bool.false_and, Bool.false_and]
    ·have h2' : a.none = true := by simpa using h2
     refine callF (containsFuncFormula_c ps (fun x => !x.forms) _ [] H1) (by simp -implicitDefEqProofs only [go_sem]) ?_
     simp -implicitDefEqProofs only [go_sem]
     rw [not_any, hN, h', h1', h2']; rfl
  ·rw [hN, show decide (ps.length = 0) = false by simpa using h]; rfl
 ·have hH : Fm.here (.mk 3 a v ps) = (decide (ps.length = 0) && a.atomOk && (v == [])) := rfl
  rw [hH] at hN
  have hq : isQ 3 = false := rfl
  have hb : isBi 3 = false := rfl
  simp only [fmD, fmC_eq, Fm.op, Fm.atom, Fm.var, Fm.parts]
  refine FC_of Tryz.call184 Tryz.func184 rfl (by kernel_rfl) (by simp only [rd, List.map_cons, List.map_nil, List.length_cons, List.length_nil, Tryz.ntmps184]; omega) ?_
  simp -implicitDefEqProofs only [go_sem, Tryz.results184]
  simp only [e0]
  refine ⟨fun h => ?_, fun h => ?_⟩
  ·have h' : decide (ps.length = 0) = true := by simpa using h
   refine callF (isQuantifier_c 3) (by simp -implicitDefEqProofs only [go_sem, hq]) ?_
   simp -implicitDefEqProofs only [go_sem, hq]
   refine callF (isQuantifier_c 3) (by simp -implicitDefEqProofs only [go_sem, hq]) ?_
   simp -implicitDefEqProofs only [go_sem, hq]
   refine ⟨fun h1 => ?_, fun h1 => ?_⟩
   ·rw [hN, show (v == []) = false by simpa using h1, Bool.and_false, Bool.false_and]
   ·have h1' : (v == []) = true := by simpa using h1
    refine callF (isValidAtom_c a ha) (by simp -implicitDefEqProofs only [go_sem, tmC_eq]) ?_
    simp -implicitDefEqProofs only [go_sem, tmC_eq]
    refine And.symm ⟨fun h2 => ?_, fun h2 => ?_⟩
    ·rw [hN, show a.atomOk = false by simpa using h2, Bool.and_false, Bool.false_and, Bool.false_and]
    ·have h2' : a.atomOk = true := by simpa using h2
     refine callF (containsFuncFormula_c ps (fun x => !x.forms) _ [] H1) (by simp -implicitDefEqProofs only [go_sem]) ?_
     simp -implicitDefEqProofs only [go_sem]
     rw [not_any, hN, h', h1', h2']; rfl
  ·rw [hN, show decide (ps.length = 0) = false by simpa using h]; rfl
 ·have hH : Fm.here (.mk 4 a v ps) = (decide (ps.length = 1) && a.none && (v == [])) := rfl
  rw [hH] at hN
  have hq : isQ 4 = false := rfl
  have hb : isBi 4 = false := rfl
  simp only [fmD, fmC_eq, Fm.op, Fm.atom, Fm.var, Fm.parts]
  refine FC_of Tryz.call184 Tryz.func184 rfl (by kernel_rfl) (by simp only [rd, List.map_cons, List.map_nil, List.length_cons, List.length_nil, Tryz.ntmps184]; omega) ?_
  simp -implicitDefEqProofs only [go_sem, Tryz.results184]
  simp only [e1]
  refine ⟨fun h => ?_, fun h => ?_⟩
  ·have h' : decide (ps.length = 1) = true := by simpa using h
   refine callF (isQuantifier_c 4) (by simp -implicitDefEqProofs only [go_sem, hq]) ?_
   simp -implicitDefEqProofs only [go_sem, hq]
   refine callF (isQuantifier_c 4) (by simp -implicitDefEqProofs only [go_sem, hq]) ?_
   simp -implicitDefEqProofs only [go_sem, hq]
   refine ⟨fun h1 => ?_, fun h1 => ?_⟩
   ·rw [hN, show (v == []) = false by simpa using h1, Bool.and_false, Bool.false_and]
   ·have h1' : (v == []) = true := by simpa using h1
    refine callF (isZeroTerm_c a) (by simp -implicitDefEqProofs only [go_sem, tmC_eq]) ?_
    simp -implicitDefEqProofs only [go_sem, tmC_eq]
    refine ⟨fun h2 => ?_, fun h2 => ?_⟩
    ·rw [hN, show a.none = false by simpa using h2, Bool.and_false, Bool.false_and, Bool.false_and]
    ·have h2' : a.none = true := by simpa using h2
     refine callF (containsFuncFormula_c ps (fun x => !x.forms) _ [] H1) (by simp -implicitDefEqProofs only [go_sem]) ?_
     simp -implicitDefEqProofs only [go_sem]
     rw [not_any, hN, h', h1', h2']; rfl
  ·rw [hN, show decide (ps.length = 1) = false by simpa using h]; rfl
 ·have hH : Fm.here (.mk 5 a v ps) = (decide (ps.length = 2) && a.none && (v == [])) := rfl
  rw [hH] at hN
  have hq : isQ 5 = false := rfl
  have hb : isBi 5 = true := rfl
  simp only [fmD, fmC_eq, Fm.op, Fm.atom, Fm.var, Fm.parts]
  refine FC_of Tryz.call184 Tryz.func184 rfl (by kernel_rfl) (by simp only [rd, List.map_cons, List.map_nil, List.length_cons, List.length_nil, Tryz.ntmps184]; omega) ?_
  simp -implicitDefEqProofs only [go_sem, Tryz.results184]
  refine callF (isQuantifier_c 5) (by simp -implicitDefEqProofs only [go_sem, hq]) ?_
  simp -implicitDefEqProofs only [go_sem, hq]
  refine callF (isBinary_c 5) (by simp -implicitDefEqProofs only [go_sem, hb]) ?_
  simp -implicitDefEqProofs only [go_sem, hb]
  simp only [e2]
  refine ⟨fun h => ?_, fun h => ?_⟩
  ·have h' : decide (ps.length = 2) = true := by simpa using h
   refine callF (isQuantifier_c 5) (by simp -implicitDefEqProofs only [go_sem, hq]) ?_
   simp -implicitDefEqProofs only [go_sem, hq]
   refine callF (isQuantifier_c 5) (by simp -implicitDefEqProofs only [go_sem, hq]) ?_
   simp -implicitDefEqProofs only [go_sem, hq]
   refine ⟨fun h1 => ?_, fun h1 => ?_⟩
   ·rw [hN, show (v == []) = false by simpa using h1, Bool.and_false, Bool.false_and]
   ·have h1' : (v == []) = true := by simpa using h1
    refine callF (isZeroTerm_c a) (by simp -implicitDefEqProofs only [go_sem, tmC_eq]) ?_
    simp -implicitDefEqProofs only [go_sem, tmC_eq]
    refine ⟨fun h2 => ?_, fun h2 => ?_⟩
    ·rw [hN, show a.none = false by simpa using h2, Bool.and_false, Bool.false_and, Bool.false_and]
    ·have h2' : a.none = true := by simpa using h2
     refine callF (containsFuncFormula_c ps (fun x => !x.forms) _ [] H1) (by simp -implicitDefEqProofs only [go_sem]) ?_
     simp -implicitDefEqProofs only [go_sem]
     rw [not_any, hN, h', h1', h2']; rfl
  ·rw [hN, show decide (ps.length = 2) = false by simpa using h]; rfl
 ·have hH : Fm.here (.mk 6 a v ps) = (decide (ps.length = 2) && a.none && (v == [])) := rfl
  rw [hH] at hN
  have hq : isQ 6 = false := rfl
  have hb : isBi 6 = true := rfl
  simp only [fmD, fmC_eq, Fm.op, Fm.atom, Fm.var, Fm.parts]
  refine FC_of Tryz.call184 Tryz.func184 rfl (by kernel_rfl) (by simp only [rd, List.map_cons, List.map_nil, List.length_cons, List.length_nil, Tryz.ntmps184]; omega) ?_
  simp -implicitDefEqProofs only [go_sem, Tryz.results184]
  refine callF (isQuantifier_c 6) (by simp -implicitDefEqProofs only [go_sem, hq]) ?_
  simp -implicitDefEqProofs only [go_sem, hq]
  refine callF (isBinary_c 6) (by simp -implicitDefEqProofs only [go_sem, hb]) ?_
  simp -implicitDefEqProofs only [go_sem, hb]
  simp only [e2]
  refine ⟨fun h => ?_, fun h => ?_⟩
  ·have h' : decide (ps.length = 2) = true := by simpa using h
   refine callF (isQuantifier_c 6) (by simp -implicitDefEqProofs only [go_sem, hq]) ?_
   simp -implicitDefEqProofs only [go_sem, hq]
   refine callF (isQuantifier_c 6) (by simp -implicitDefEqProofs only [go_sem, hq]) ?_
   simp -implicitDefEqProofs only [go_sem, hq]
   refine ⟨fun h1 => ?_, fun h1 => ?_⟩
   ·rw [hN, show (v == []) = false by simpa using h1, Bool.and_false, Bool.false_and]
   ·have h1' : (v == []) = true := by simpa using h1
    refine callF (isZeroTerm_c a) (by simp -implicitDefEqProofs only [go_sem, tmC_eq]) ?_
    simp -implicitDefEqProofs only [go_sem, tmC_eq]
    refine ⟨fun h2 => ?_, fun h2 => ?_⟩
    ·rw [hN, show a.none = false by simpa using h2, Bool.and_false, Bool.false_and, Bool.false_and]
    ·have h2' : a.none = true := by simpa using h2
     refine callF (containsFuncFormula_c ps (fun x => !x.forms) _ [] H1) (by simp -implicitDefEqProofs only [go_sem]) ?_
     simp -implicitDefEqProofs only [go_sem]
     rw [not_any, hN, h', h1', h2']; rfl
  ·rw [hN, show decide (ps.length = 2) = false by simpa using h]; rfl
 ·have hH : Fm.here (.mk 7 a v ps) = (decide (ps.length = 2) && a.none && (v == [])) := rfl
  rw [hH] at hN
  have hq : isQ 7 = false := rfl
  have hb : isBi 7 = true := rfl
  simp only [fmD, fmC_eq, Fm.op, Fm.atom, Fm.var, Fm.parts]
  refine FC_of Tryz.call184 Tryz.func184 rfl (by kernel_rfl) (by simp only [rd, List.map_cons, List.map_nil, List.length_cons, List.length_nil, Tryz.ntmps184]; omega) ?_
  simp -implicitDefEqProofs only [go_sem, Tryz.results184]
  refine callF (isQuantifier_c 7) (by simp -implicitDefEqProofs only [go_sem, hq]) ?_
  simp -implicitDefEqProofs only [go_sem, hq]
  refine callF (isBinary_c 7) (by simp -implicitDefEqProofs only [go_sem, hb]) ?_
  simp -implicitDefEqProofs only [go_sem, hb]
  simp only [e2]
  refine ⟨fun h => ?_, fun h => ?_⟩
  ·have h' : decide (ps.length = 2) = true := by simpa using h
   refine callF (isQuantifier_c 7) (by simp -implicitDefEqProofs only [go_sem, hq]) ?_
   simp -implicitDefEqProofs only [go_sem, hq]
   refine callF (isQuantifier_c 7) (by simp -implicitDefEqProofs only [go_sem, hq]) ?_
   simp -implicitDefEqProofs only [go_sem, hq]
   refine ⟨fun h1 => ?_, fun h1 => ?_⟩
   ·rw [hN, show (v == []) = false by simpa using h1, Bool.and_false, Bool.false_and]
   ·have h1' : (v == []) = true := by simpa using h1
    refine callF (isZeroTerm_c a) (by simp -implicitDefEqProofs only [go_sem, tmC_eq]) ?_
    simp -implicitDefEqProofs only [go_sem, tmC_eq]
    refine ⟨fun h2 => ?_, fun h2 => ?_⟩
    ·rw [hN, show a.none = false by simpa using h2, Bool.and_false, Bool.false_and, Bool.false_and]
    ·have h2' : a.none = true := by simpa using h2
     refine callF (containsFuncFormula_c ps (fun x => !x.forms) _ [] H1) (by simp -implicitDefEqProofs only [go_sem]) ?_
     simp -implicitDefEqProofs only [go_sem]
     rw [not_any, hN, h', h1', h2']; rfl
  ·rw [hN, show decide (ps.length = 2) = false by simpa using h]; rfl
 ·have hH : Fm.here (.mk 8 a v ps) = (decide (ps.length = 1) && a.none && varOk v) := rfl
  rw [hH] at hN
  have hq : isQ 8 = true := rfl
  have hb : isBi 8 = false := rfl
  simp only [fmD, fmC_eq, Fm.op, Fm.atom, Fm.var, Fm.parts]
  refine FC_of Tryz.call184 Tryz.func184 rfl (by kernel_rfl) (by simp only [rd, List.map_cons, List.map_nil, List.length_cons, List.length_nil, Tryz.ntmps184]; omega) ?_
  simp -implicitDefEqProofs only [go_sem, Tryz.results184]
  refine callF (isQuantifier_c 8) (by simp -implicitDefEqProofs only [go_sem, hq]) ?_
  simp -implicitDefEqProofs only [go_sem, hq]
  simp only [e1]
  refine ⟨fun h => ?_, fun h => ?_⟩
  ·have h' : decide (ps.length = 1) = true := by simpa using h
   refine callF (isQuantifier_c 8) (by simp -implicitDefEqProofs only [go_sem, hq]) ?_
   simp -implicitDefEqProofs only [go_sem, hq]
   refine callF (isVariable_c v) (by simp -implicitDefEqProofs only [go_sem]) ?_
   simp -implicitDefEqProofs only [go_sem]
   refine ⟨fun h1 => ?_, fun h1 => ?_⟩
   ·have h1' : varOk v = true := by simpa using h1
    refine callF (isQuantifier_c 8) (by simp -implicitDefEqProofs only [go_sem, hq]) ?_
    simp -implicitDefEqProofs only [go_sem, hq]
    refine callF (isZeroTerm_c a) (by simp -implicitDefEqProofs only [go_sem, tmC_eq]) ?_
    simp -implicitDefEqProofs only [go_sem, tmC_eq]
    refine ⟨fun h2 => ?_, fun h2 => ?_⟩
    ·rw [hN, show a.none = false by simpa using h2, Bool.and_false, Bool.false_and, Bool.false_and]
    ·have h2' : a.none = true := by simpa using h2
     refine callF (containsFuncFormula_c ps (fun x => !x.forms) _ [] H1) (by simp -implicitDefEqProofs only [go_sem]) ?_
     simp -implicitDefEqProofs only [go_sem]
     rw [not_any, hN, h', h1', h2']; rfl
   ·rw [hN, show varOk v = false by simpa using h1, Bool.and_false, Bool.false_and]
  ·rw [hN, show decide (ps.length = 1) = false by simpa using h]; rfl
 ·have hH : Fm.here (.mk 9 a v ps) = (decide (ps.length = 1) && a.none && varOk v) := rfl
  rw [hH] at hN
  have hq : isQ 9 = true := rfl
  have hb : isBi 9 = false := rfl
  simp only [fmD, fmC_eq, Fm.op, Fm.atom, Fm.var, Fm.parts]
  refine FC_of Tryz.call184 Tryz.func184 rfl (by kernel_rfl) (by simp only [rd, List.map_cons, List.map_nil, List.length_cons, List.length_nil, Tryz.ntmps184]; omega) ?_
  simp -implicitDefEqProofs only [go_sem, Tryz.results184]
  refine callF (isQuantifier_c 9) (by simp -implicitDefEqProofs only [go_sem, hq]) ?_
  simp -implicitDefEqProofs only [go_sem, hq]
  simp only [e1]
  refine ⟨fun h => ?_, fun h => ?_⟩
  ·have h' : decide (ps.length = 1) = true := by simpa using h
   refine callF (isQuantifier_c 9) (by simp -implicitDefEqProofs only [go_sem, hq]) ?_
   simp -implicitDefEqProofs only [go_sem, hq]
   refine callF (isVariable_c v) (by simp -implicitDefEqProofs only [go_sem]) ?_
   simp -implicitDefEqProofs only [go_sem]
   refine ⟨fun h1 => ?_, fun h1 => ?_⟩
   ·have h1' : varOk v = true := by simpa using h1
    refine callF (isQuantifier_c 9) (by simp -implicitDefEqProofs only [go_sem, hq]) ?_
    simp -implicitDefEqProofs only [go_sem, hq]
    refine callF (isZeroTerm_c a) (by simp -implicitDefEqProofs only [go_sem, tmC_eq]) ?_
    simp -implicitDefEqProofs only [go_sem, tmC_eq]
    refine ⟨fun h2 => ?_, fun h2 => ?_⟩
    ·rw [hN, show a.none = false by simpa using h2, Bool.and_false, Bool.false_and, Bool.false_and]
    ·have h2' : a.none = true := by simpa using h2
     refine callF (containsFuncFormula_c ps (fun x => !x.forms) _ [] H1) (by simp -implicitDefEqProofs only [go_sem]) ?_
     simp -implicitDefEqProofs only [go_sem]
     rw [not_any, hN, h', h1', h2']; rfl
   ·rw [hN, show varOk v = false by simpa using h1, Bool.and_false, Bool.false_and]
  ·rw [hN, show decide (ps.length = 1) = false by simpa using h]; rfl
 ·have hH : Fm.here (.mk o a v ps) = false := by simp [Fm.here, isBi, isQ, Fm.op, *]
  rw [hH] at hN
  have f1 : (o == 1) = false := by simpa using n1
  have f2 : (o == 2) = false := by simpa using n2
  have f3 : (o == 3) = false := by simpa using n3
  have f4 : (o == 4) = false := by simpa using n4
  have hq : isQ o = false := by simp [isQ, n8, n9]
  have hb : isBi o = false := by simp [isBi, n5, n6, n7]
  simp only [fmD, fmC_eq, Fm.op, Fm.atom, Fm.var, Fm.parts]
  refine FC_of Tryz.call184 Tryz.func184 rfl (by kernel_rfl) (by simp only [rd, List.map_cons, List.map_nil, List.length_cons, List.length_nil, Tryz.ntmps184]; omega) ?_
  simp -implicitDefEqProofs only [go_sem, Tryz.results184, f1, f2, f3, f4]
  refine callF (isQuantifier_c o) (by simp -implicitDefEqProofs only [go_sem, hq]) ?_
  simp -implicitDefEqProofs only [go_sem, hq]
  refine callF (isBinary_c o) (by simp -implicitDefEqProofs only [go_sem, hb]) ?_
  simp -implicitDefEqProofs only [go_sem, hb]
  rw [hN]; rfl
theorem hasForm_c : ∀ a : Fm, a.wt ≤ 1099511627776 → FC Tryz.prog 184 [fmD a] [bD a.forms] :=
 fm_ind fun o a v xs ih hs => hasForm_of (.mk o a v xs) hs fun x hx => ih x hx (Nat.le_trans (fparts_wt (a := .mk o a v xs) hx) hs)
theorem isValidFormula_c (a : Fm) (hs : a.wt ≤ 1099511627776) : FC Tryz.prog 116 [fmD a] [bD a.good] := by
 simp only [fmD, fmC_eq]
 refine FC_of Tryz.call116 Tryz.func116 rfl (by kernel_rfl) (by simp only [rd, List.map_cons, List.map_nil, List.length_cons, List.length_nil, Tryz.ntmps116]; omega) ?_
 simp -implicitDefEqProofs only [go_sem, Tryz.results116]
 refine callF (sizeOf_c a hs) (by simp -implicitDefEqProofs only [go_sem, fmC_eq]) ?_
 simp -implicitDefEqProofs only [go_sem, fmC_eq]
 rw [sizeF_le]
 refine ⟨fun h => ?_, fun h => ?_⟩
 ·refine callF (hasForm_c a hs) (by simp -implicitDefEqProofs only [go_sem, fmC_eq]) ?_
  simp -implicitDefEqProofs only [go_sem, fmC_eq]
  rw [Fm.good, h, Bool.true_and]
 ·rw [Fm.good, h, Bool.false_and]
end Go.Proofs.YtbccfiillleimaaGreat
namespace Go.Proofs.YtbccfiillleimaaGreat
set_option linter.unusedSimpArgs false
set_option linter.unusedVariables false
set_option linter.unusedSectionVars false
set_option maxRecDepth 4000
open Go.RowKit
theorem part_nodes {f : Fm} {x : Fm} (h : x ∈ f.parts) : x.nodes < f.nodes := by
 have := f.nodes_eq
 obtain ⟨i, hi, rfl⟩ := List.getElem_of_mem h
 have := mem_sum Fm.nodes f.parts _ (List.getElem_mem hi)
 omega
end Go.Proofs.YtbccfiillleimaaGreat
namespace Go.Proofs.YtbccfiillleimaaGreat
set_option linter.unusedSimpArgs false
set_option linter.unusedVariables false
set_option linter.unusedSectionVars false
set_option maxRecDepth 4000
open Go.RowKit
def subF (n : Str) (t : Tm) : Fm → Fm × Bool := Fm.fold fun o a v ps rs =>
 if (isQ o && (v == n || !((putSs [] (vf (.mk o a v ps) [])).contains n))) = true then (.mk o a v ps, true)
 else if (isQ o && decide (0 < cntN v t)) = true then (mkF 0 [], false)
 else (.mk o (if (o == 3) = true then subT n t a else a) v (rs.map Prod.fst), rs.all Prod.snd)
theorem subF_eq (n : Str) (t : Tm) (f : Fm) : subF n t f = if (isQ f.op && (f.var == n || !((putSs [] (vf f [])).contains n))) = true then (f, true)
  else if (isQ f.op && decide (0 < cntN f.var t)) = true then (mkF 0 [], false)
  else (.mk f.op (if (f.op == 3) = true then subT n t f.atom else f.atom) f.var (f.parts.map fun x => (subF n t x).1), f.parts.all fun x => (subF n t x).2) := by
 cases f with
 | mk o a v ps =>
  conv => lhs; unfold subF; rw [Fm.fold_eq]
  simp only [List.map_map, List.all_map]
  rfl
abbrev subX (n : Str) (t : Tm) (b : Bool) : Bxs := [[(false, .str n)], [(false, .str t.name), (false, .sl 2 (t.args.map tmC))], [(true, .bool b)]]
theorem sub1_of (n : Str) (t : Tm) (f : Fm) (r : Fm) (ok b : Bool) (H : FC Tryz.prog 209 [fmD f, sD n, tmD t] [fmD r, bD ok]) :
  PC Tryz.prog 250 (subX n t b) [.d false (fmD f), .p 0, .p 1, .p 2] (subX n t (b && ok)) [(true, fmD r)] := by
 simp only [fmD, fmC_eq, tmD, tmC_eq t] at H ⊢
 refine PC_of Tryz.call250 Tryz.func250 rfl (by kernel_rfl) (by simp only [List.length_cons, List.length_nil, Tryz.ntmps250]; omega) (by simp only [Tryz.ntmps250]; omega) rfl rfl (by simp [smallG, T.isPin, AF.ds, bxA]) (by simp [gFS, T.fs, T.flat, AF.ds, bxA]) rfl ?_
 simp -implicitDefEqProofs only [go_sem, Tryz.results250]
 refine callF (H) (by simp -implicitDefEqProofs only [go_sem]) ?_
 simp -implicitDefEqProofs only [go_sem]
 exact ⟨fun h => Or.inl (by rw [h]; rfl), fun h => Or.inl (by rw [h]; rfl)⟩
theorem mapPartsP_of (n : Str) (t : Tm) (a : Fm) (g : FuncId) (φ : Fm → Fm) (ψ : Fm → Bool) (b : Bool) (H : ∀ x ∈ a.parts, ∀ b, PC Tryz.prog g (subX n t b) [.d false (fmD x), .p 0, .p 1, .p 2] (subX n t (b && ψ x)) [(true, fmD (φ x))]) (h0 : a.atom.wt ≤ 1048576) (hs : a.parts.length ≤ 1048576) :
  PC Tryz.prog 127 (subX n t b) [.d false (fmD a), .fn g [0, 1, 2]] (subX n t (b && a.parts.all ψ)) [(true, fmD (.mk a.op a.atom a.var (a.parts.map φ)))] := by
 simp only [fmD, fmC_eq a, fmC_mk]
 refine PC_of Tryz.call127 Tryz.func127 rfl (by kernel_rfl) (by simp only [List.length_cons, List.length_nil, Tryz.ntmps127]; omega) (by simp only [Tryz.ntmps127]; omega) rfl rfl (by simp [smallG, T.isPin, AF.ds, bxA]) (by simp [gFS, T.fs, T.flat, AF.ds, bxA]) rfl ?_
 simp -implicitDefEqProofs only [go_sem, Tryz.results127]
 refine drawn (by kernel_rfl) ?_
 simp -implicitDefEqProofs only [go_sem]
 refine dCallF (copyTerm_c a.atom h0) (by simp -implicitDefEqProofs only [go_sem, tmC_eq]) ?_
 simp -implicitDefEqProofs only [go_sem, tmC_eq]
 refine ⟨by kernel_rfl, ?_⟩
 refine loop_rule (fun k : Nat => hd [(1, .one (.fn g [1000000, 1000001, 1000002])), (4, .one (.bx 4 0)), (5, .one (.bx 5 0)), (17, .one (.rn (fmS a.parts))), (18, vI a.parts.length), (19, vI k), (1000000, .one (.bx 1000000 0)), (1000001, .one (.bx 1000001 0)), (1000002, .one (.bx 1000002 0))] [(4, [.t (.int .i64 0), .t (.str []), .nl 2, .t (.str []), .nl 5]), (5, [.t (.int .i64 a.op), .t (.str a.atom.name), .ow 385 0, .t (.str a.var), .ow 3000 0]), (1000000, [.t (.str n)]), (1000001, [.t (.str t.name), .rn (.sl 2 (t.args.map tmC))]), (1000002, [.t (.bool (b && (a.parts.take k).all ψ))])]
  [(385, ⟨true, 2, a.atom.args.map tmC, 0, true⟩), (3000, ⟨true, 5, (a.parts.take k).map fun x => fmC (φ x), 0, true⟩)]) (fun k => k ≤ a.parts.length) (fun k => a.parts.length - k) 0 (weak_hd ?_) ?_ ?_
 ·simp -implicitDefEqProofs only [go_sem]
 ·simp
 ·intro k hk
  by_cases hlt : k < a.parts.length
  ·have hmin : min k a.parts.length ≤ 4294967295 := by omega
   have HC := H a.parts[k] (List.getElem_mem hlt) (b && (a.parts.take k).all ψ)
   have hsuc : (a.parts.take (k + 1)).all ψ = ((a.parts.take k).all ψ && ψ a.parts[k]) := by rw [List.take_succ_eq_append_getElem hlt, List.all_append]; simp
   simp only [fmD, fmC_eq a.parts[k], fmC_eq (φ a.parts[k])] at HC
   simp -implicitDefEqProofs only [go_sem, getD_at, hlt, fmC_eq a.parts[k]]
   refine drawn (by kernel_rfl) ?_
   simp -implicitDefEqProofs only [go_sem]
   refine dCallQ [1000000, 1000001, 1000002] (HC) (by decide) (by simp -implicitDefEqProofs only [go_sem]) (by simp -implicitDefEqProofs only [go_sem]) ?_
   simp -implicitDefEqProofs only [go_sem]
   refine dBuildDc (by simp -implicitDefEqProofs only [go_sem]) ?_
   simp -implicitDefEqProofs only [go_sem]
   refine dApD true (by simp -implicitDefEqProofs only [go_sem, ne_eq, List.length_map, List.length_take, hmin]) ?_
   simp -implicitDefEqProofs only [go_sem, ne_eq, List.length_map, List.length_take, hmin]
   refine ⟨by kernel_rfl, k + 1, hlt, by omega, weak_hd ?_⟩
   simp -implicitDefEqProofs only [go_sem]
   rw [wrap_s (by omega), List.take_succ_eq_append_getElem hlt, List.map_append, List.map_singleton]
   simp only [fmC_eq]
   rw [← List.take_succ_eq_append_getElem hlt, hsuc, Bool.and_assoc]
   exact ⟨trivial, rfl, trivial⟩
  ·have ht : a.parts.take k = a.parts := List.take_of_length_le (by omega)
   simp -implicitDefEqProofs only [go_sem, hlt, ht]
   exact Or.inl (Or.inl rfl)
theorem substituted_of (n : Str) (t : Tm) (ht : t.wt ≤ 1048576) (f : Fm) (hf : f.forms = true) (hw : f.wt ≤ 1048576) (H : ∀ x ∈ f.parts, FC Tryz.prog 209 [fmD x, sD n, tmD t] [fmD (subF n t x).1, bD (subF n t x).2]) :
  FC Tryz.prog 209 [fmD f, sD n, tmD t] [fmD (subF n t f).1, bD (subF n t f).2] := by
 have hv := subF_eq n t f
 have HF := free_c f hf hw
 have HO := occurs_c f.var t (by omega)
 have HP := mapPartsP_of n t f 250 (fun x => (subF n t x).1) (fun x => (subF n t x).2) true (fun x hx b => sub1_of n t x _ _ b (H x hx)) (by have := atom_wt f; omega) (by have := f.wt_eq; omega)
 rw [Bool.true_and] at HP
 have HC := copyFormula_c f hw
 generalize putSs [] (vf f []) = V at hv HF
 simp only [fmD, fmC_eq f, tmD, tmC_eq t, fmC_mk] at HF HO HC HP ⊢
 refine FC_ofN Tryz.call209 Tryz.func209 rfl (by kernel_rfl) (by simp only [rd, List.map_cons, List.map_nil, List.length_cons, List.length_nil, Tryz.ntmps209]; omega) ?_
 simp -implicitDefEqProofs only [go_sem, Tryz.results209]
 cases hq : isQ f.op
 ·rw [hq, Bool.false_and, Bool.false_and, if_neg (by simp), if_neg (by simp)] at hv
  have HI := isQuantifier_c f.op
  rw [hq] at HI
  refine drawn (by kernel_rfl) ?_
  simp -implicitDefEqProofs only [go_sem]
  refine dCallF (HI) (by simp -implicitDefEqProofs only [go_sem]) ?_
  simp -implicitDefEqProofs only [go_sem]
  refine ⟨by kernel_rfl, ?_⟩
  refine callF (HI) (by simp -implicitDefEqProofs only [go_sem]) ?_
  simp -implicitDefEqProofs only [go_sem]
  have HA := apply_c n t ht f.atom (by have := atom_wt f; omega)
  have hS : sbS [(n, t)] = .sl 3 [[.str n, .str t.name, .sl 2 (t.args.map tmC)]] := by unfold sbS; rw [List.map_singleton, bnC_eq]
  rw [hS] at HA
  simp only [tmD, tmC_eq f.atom, tmC_eq (subT n t f.atom)] at HA
  cases h3 : f.op == 3
  ·rw [h3, if_neg (by simp)] at hv
   rw [hv]
   simp only [fmD, fmC_mk]
   refine callQ [4, 5, 8] (HP) (by decide) (by simp -implicitDefEqProofs only [go_sem, h3]) (by simp -implicitDefEqProofs only [go_sem, h3]) ?_
   simp -implicitDefEqProofs only [go_sem, h3]
   refine drawn (by kernel_rfl) ?_
   simp -implicitDefEqProofs only [go_sem]
   kernel_rfl
  ·rw [h3, if_pos rfl] at hv
   rw [hv]
   simp only [fmD, fmC_mk]
   refine callQ [4, 5, 8] (HP) (by decide) (by simp -implicitDefEqProofs only [go_sem, h3]) (by simp -implicitDefEqProofs only [go_sem, h3]) ?_
   simp -implicitDefEqProofs only [go_sem, h3]
   refine buildSc (by simp -implicitDefEqProofs only [go_sem]) ?_
   simp -implicitDefEqProofs only [go_sem]
   refine callF (HA) (by simp -implicitDefEqProofs only [go_sem]) ?_
   simp -implicitDefEqProofs only [go_sem]
   refine drawn (by kernel_rfl) ?_
   simp -implicitDefEqProofs only [go_sem]
   kernel_rfl
 ·have HI := isQuantifier_c f.op
  rw [hq] at HI
  rw [hq, Bool.true_and, Bool.true_and] at hv
  cases hvn : f.var == n
  ·rw [hvn, Bool.false_or] at hv
   have HCt := containsStr_c V n
   refine drawn (by kernel_rfl) ?_
   simp -implicitDefEqProofs only [go_sem]
   refine dCallF (HI) (by simp -implicitDefEqProofs only [go_sem, hvn]) ?_
   simp -implicitDefEqProofs only [go_sem, hvn]
   cases hcn : V.contains n
   ·rw [hcn, if_pos (by simp)] at hv
    rw [hcn] at HCt
    rw [hv]
    simp only [fmD, fmC_eq f]
    refine gCallF (HF) (by simp -implicitDefEqProofs only [go_sem]) ?_
    simp -implicitDefEqProofs only [go_sem]
    refine gCallF (HCt) (by simp -implicitDefEqProofs only [go_sem]) ?_
    simp -implicitDefEqProofs only [go_sem]
    refine ⟨by kernel_rfl, ?_⟩
    refine callF (HC) (by simp -implicitDefEqProofs only [go_sem]) ?_
    simp -implicitDefEqProofs only [go_sem]
   ·rw [hcn, if_neg (by simp)] at hv
    rw [hcn] at HCt
    refine gCallF (HF) (by simp -implicitDefEqProofs only [go_sem]) ?_
    simp -implicitDefEqProofs only [go_sem]
    refine gCallF (HCt) (by simp -implicitDefEqProofs only [go_sem]) ?_
    simp -implicitDefEqProofs only [go_sem]
    refine ⟨by kernel_rfl, ?_⟩
    refine callF (HI) (by simp -implicitDefEqProofs only [go_sem]) ?_
    simp -implicitDefEqProofs only [go_sem]
    have h3 : (f.op == 3) = false := by
     rw [beq_eq_false_iff_ne]
     intro e
     rw [e] at hq
     exact absurd hq (by decide)
    cases ho : decide (0 < cntN f.var t)
    ·rw [ho, if_neg (by simp), h3, if_neg (by simp)] at hv
     rw [ho] at HO
     rw [hv]
     simp only [fmD, fmC_mk]
     refine callF (HO) (by simp -implicitDefEqProofs only [go_sem]) ?_
     simp -implicitDefEqProofs only [go_sem]
     refine callQ [4, 5, 8] (HP) (by decide) (by simp -implicitDefEqProofs only [go_sem, h3]) (by simp -implicitDefEqProofs only [go_sem, h3]) ?_
     simp -implicitDefEqProofs only [go_sem, h3]
     refine drawn (by kernel_rfl) ?_
     simp -implicitDefEqProofs only [go_sem]
     kernel_rfl
    ·rw [ho, if_pos rfl] at hv
     rw [ho] at HO
     rw [hv]
     simp only [fmD, fmC_mkF, List.map_nil]
     refine callF (HO) (by simp -implicitDefEqProofs only [go_sem]) ?_
     simp -implicitDefEqProofs only [go_sem]
  ·rw [hvn, Bool.true_or, if_pos rfl] at hv
   refine drawn (by kernel_rfl) ?_
   simp -implicitDefEqProofs only [go_sem]
   rw [hv]
   simp only [fmD, fmC_eq f]
   refine dCallF (HI) (by simp -implicitDefEqProofs only [go_sem, hvn]) ?_
   simp -implicitDefEqProofs only [go_sem, hvn]
   refine ⟨by kernel_rfl, ?_⟩
   refine callF (HC) (by simp -implicitDefEqProofs only [go_sem]) ?_
   simp -implicitDefEqProofs only [go_sem]
theorem substituted_c (n : Str) (t : Tm) (ht : t.wt ≤ 1048576) : ∀ f : Fm, f.forms = true → f.wt ≤ 1048576 → FC Tryz.prog 209 [fmD f, sD n, tmD t] [fmD (subF n t f).1, bD (subF n t f).2] :=
 fm_ind fun o a v ps ih hf hw => substituted_of n t ht (.mk o a v ps) hf hw fun x hx => ih x hx (by rw [Fm.forms_eq, Bool.and_eq_true] at hf; exact List.all_eq_true.1 hf.2 x hx) (Nat.le_trans (fparts_wt (a := .mk o a v ps) hx) hw)
end Go.Proofs.YtbccfiillleimaaGreat
namespace Go.Proofs.YtbccfiillleimaaGreat
set_option linter.unusedSimpArgs false
set_option linter.unusedVariables false
set_option linter.unusedSectionVars false
set_option maxRecDepth 4000
open Go.RowKit
theorem l4Find_one (n : Str) (t : Tm) (x : Str) : FC Tryz.prog 216 [.agg [sbS [(n, t)]], sD x] [iD (if (n == x) = true then 0 else -1)] := by
 have hS : sbS [(n, t)] = .sl 3 [[.str n, .str t.name, .sl 2 (t.args.map tmC)]] := by unfold sbS; rw [List.map_singleton, bnC_eq]
 rw [hS]
 refine FC_of Tryz.call216 Tryz.func216 rfl (by kernel_rfl) (by simp only [rd, List.map_cons, List.map_nil, List.length_cons, List.length_nil, Tryz.ntmps216]; omega) ?_
 simp -implicitDefEqProofs only [go_sem, Tryz.results216]
 refine loop_rule (fun k : Nat => hd [(1, vT (.str x)), (2, .one (.bx 2 0)), (5, vI k)] [(2, [.t (.sl 3 [[.str n, .str t.name, .sl 2 (t.args.map tmC)]])])] []) (fun k => k = 0 ∨ (k = 1 ∧ (n == x) = false)) (fun k => 1 - k) 0 (weak_hd ?_) (Or.inl rfl) ?_
 ·simp -implicitDefEqProofs only [go_sem]
 ·rintro k (rfl | ⟨rfl, hn⟩)
  ·cases hn : n == x
   ·simp -implicitDefEqProofs only [go_sem, hn]
    refine ⟨1, Or.inr rfl, by decide, weak_hd ?_⟩
    have hz : IntKind.i64.wrap 1 = 1 := by decide
    simp -implicitDefEqProofs only [go_sem, hz]
   ·simp -implicitDefEqProofs only [go_sem, hn]
  ·simp -implicitDefEqProofs only [go_sem, hn]
theorem l4Put_one (n : Str) (t : Tm) (ht : t.wt ≤ 1048576) (hn : (t.name == n) = false) : FC Tryz.prog 180 [.agg [sbS []], sD n, tmD t] [.agg [sbS [(n, t)]]] := by
 have hS : sbS [(n, t)] = .sl 3 [[.str n, .str t.name, .sl 2 (t.args.map tmC)]] := by unfold sbS; rw [List.map_singleton, bnC_eq]
 have hS0 : sbS [] = .sl 3 [] := rfl
 have HK := l2Own_c t ht
 rw [hS, hS0]
 simp only [tmD, tmC_eq t] at HK ⊢
 refine FC_ofN Tryz.call180 Tryz.func180 rfl (by kernel_rfl) (by simp only [rd, List.map_cons, List.map_nil, List.length_cons, List.length_nil, Tryz.ntmps180]; omega) ?_
 simp -implicitDefEqProofs only [go_sem, Tryz.results180, hn]
 refine loop_rule (fun k : Nat => hd [(1, vT (.str n)), (3, .one (.bx 3 0)), (5, .one (.bx 5 0)), (6, .one (.bx 6 0)), (7, vI (0 : Nat))] [(3, [.rn (.sl 3 [])]), (5, [.t (.str t.name), .rn (.sl 2 (t.args.map tmC))]), (6, [.nl 3])] []) (fun k => k = 0) (fun k => 0) 0 (weak_hd ?_) rfl ?_
 ·simp -implicitDefEqProofs only [go_sem]
 ·rintro k rfl
  simp -implicitDefEqProofs only [go_sem]
  refine buildDc (by simp -implicitDefEqProofs only [go_sem]) ?_
  simp -implicitDefEqProofs only [go_sem]
  refine apD true (by simp -implicitDefEqProofs only [go_sem, ne_eq]) ?_
  simp -implicitDefEqProofs only [go_sem, ne_eq]
  refine callF (HK) (by simp -implicitDefEqProofs only [go_sem]) ?_
  simp -implicitDefEqProofs only [go_sem]
  refine buildDc (by simp -implicitDefEqProofs only [go_sem]) ?_
  simp -implicitDefEqProofs only [go_sem]
  refine apD true (by simp -implicitDefEqProofs only [go_sem, ne_eq]) ?_
  simp -implicitDefEqProofs only [go_sem, ne_eq]
  refine apD true (by simp -implicitDefEqProofs only [go_sem, ne_eq]) ?_
  simp -implicitDefEqProofs only [go_sem, ne_eq]
theorem l4Put_self (n : Str) (t : Tm) (hn : (t.name == n) = true) : RC Tryz.prog 180 [.agg [sbS []], sD n, tmD t] [.agg [sbS []]] := by
 have hS0 : sbS [] = .sl 3 [] := rfl
 rw [hS0]
 simp only [tmD, tmC_eq t]
 refine RC_of Tryz.call180 Tryz.func180 rfl (by kernel_rfl) (by simp only [rd, List.map_cons, List.map_nil, List.length_cons, List.length_nil, Tryz.ntmps180]; omega) ?_
 simp -implicitDefEqProofs only [go_sem, Tryz.results180, hn]
def putT (l : List (Str × Tm)) : Tm → Tm := Tm.fold fun m _ rs => if varOk m = true then (match l.find? fun p => p.1 == m with | some p => p.2 | none => .mk m []) else .mk m rs
theorem putT_eq (l : List (Str × Tm)) (a : Tm) : putT l a = if varOk a.name = true then (match l.find? fun p => p.1 == a.name with | some p => p.2 | none => .mk a.name []) else .mk a.name (a.args.map (putT l)) := by unfold putT; rw [Tm.fold_eq]
theorem l4Find_none (x : Str) : FC Tryz.prog 216 [.agg [sbS []], sD x] [iD (-1)] := by
 have hS : sbS [] = .sl 3 [] := rfl
 rw [hS]
 refine FC_of Tryz.call216 Tryz.func216 rfl (by kernel_rfl) (by simp only [rd, List.map_cons, List.map_nil, List.length_cons, List.length_nil, Tryz.ntmps216]; omega) ?_
 simp -implicitDefEqProofs only [go_sem, Tryz.results216]
 refine loop_rule (fun k : Nat => hd [(1, vT (.str x)), (2, .one (.bx 2 0)), (5, vI (0 : Nat))] [(2, [.t (.sl 3 [])])] []) (fun k => k = 0) (fun k => 0) 0 (weak_hd ?_) rfl ?_
 ·simp -implicitDefEqProofs only [go_sem]
 ·rintro k rfl
  simp -implicitDefEqProofs only [go_sem]
theorem l4Apply_of (l : List (Str × Tm)) (hl : l.length ≤ 1) (hw : ∀ p ∈ l, p.2.wt ≤ 1048576) (a : Tm) (ha : a.args.length ≤ 1048576) (H : ∀ x ∈ a.args, FC Tryz.prog 179 [.agg [sbS l], tmD x] [tmD (putT l x)]) : FC Tryz.prog 179 [.agg [sbS l], tmD a] [tmD (putT l a)] := by
 have hv := putT_eq l a
 have HV := l2Var_c a.name
 cases hva : varOk a.name
 ·rw [hva, if_neg (by simp)] at hv
  rw [hva] at HV
  rw [hv]
  have e1 : tmD (.mk a.name (a.args.map (putT l))) = .agg [.str a.name, .sl 2 (a.args.map fun x => tmC (putT l x))] := by unfold tmD; rw [tmC_eq]; simp only [Tm.name, Tm.args, List.map_map, Function.comp_def]
  rw [e1]
  simp only [tmD, tmC_eq a] at H ⊢
  unfold sbS at H ⊢
  generalize l.map bnC = L at H ⊢
  refine FC_of Tryz.call179 Tryz.func179 rfl (by kernel_rfl) (by simp only [rd, List.map_cons, List.map_nil, List.length_cons, List.length_nil, Tryz.ntmps179]; omega) ?_
  simp -implicitDefEqProofs only [go_sem, Tryz.results179]
  refine callF (HV) (by simp -implicitDefEqProofs only [go_sem]) ?_
  simp -implicitDefEqProofs only [go_sem]
  refine loop_rule (fun k : Nat => hd [(2, .one (.bx 2 0)), (3, .one (.bx 3 0)), (4, .one (.bx 4 0)), (6, .one (.bx 6 0)), (7, vI k)] [(2, [.t (.sl 3 L)]), (3, [.t (.str a.name), .t (tmS a.args)]), (4, [.t (.str []), .nl 2]), (6, [.t (.str a.name), .ow 3000 0])] [(3000, ⟨true, 2, (a.args.take k).map fun x => tmC (putT l x), 0, true⟩)]) (fun k => k ≤ a.args.length) (fun k => a.args.length - k) 0 (weak_hd ?_) (Nat.zero_le _) ?_
  ·simp -implicitDefEqProofs only [go_sem]
  ·intro k hk
   by_cases hlt : k < a.args.length
   ·have HC := H a.args[k] (List.getElem_mem hlt)
    have hmin : min k a.args.length ≤ 4294967295 := by omega
    simp only [tmC_eq a.args[k], tmC_eq (putT l a.args[k])] at HC
    simp -implicitDefEqProofs only [go_sem, hlt]
    refine drawn (by kernel_rfl) ?_
    simp -implicitDefEqProofs only [go_sem, getD_at, hlt, tmC_eq a.args[k]]
    refine dCallF (HC) (by simp -implicitDefEqProofs only [go_sem]) ?_
    simp -implicitDefEqProofs only [go_sem]
    refine dBuildDc (by simp -implicitDefEqProofs only [go_sem]) ?_
    simp -implicitDefEqProofs only [go_sem]
    refine dApD true (by simp -implicitDefEqProofs only [go_sem, ne_eq, List.length_map, List.length_take, hmin]) ?_
    simp -implicitDefEqProofs only [go_sem, ne_eq, List.length_map, List.length_take, hmin]
    refine ⟨by kernel_rfl, k + 1, hlt, by omega, weak_hd ?_⟩
    simp -implicitDefEqProofs only [go_sem]
    rw [wrap_s (by omega), List.take_succ_eq_append_getElem hlt, List.map_append, List.map_singleton]
    simp only [tmC_eq]
    trivial
   ·have ht : a.args.take k = a.args := List.take_of_length_le (by omega)
    simp -implicitDefEqProofs only [go_sem, hlt, ht]
 ·rw [hva, if_pos rfl] at hv
  rw [hva] at HV
  rw [hv]
  match l, hl with
  | [], _ =>
   have HN := l4Find_none a.name
   simp only [List.find?_nil]
   have e1 : tmD (.mk a.name []) = .agg [.str a.name, .sl 2 []] := rfl
   have hS : sbS [] = .sl 3 [] := rfl
   rw [hS] at HN ⊢
   rw [e1]
   simp only [tmD, tmC_eq a]
   refine FC_of Tryz.call179 Tryz.func179 rfl (by kernel_rfl) (by simp only [rd, List.map_cons, List.map_nil, List.length_cons, List.length_nil, Tryz.ntmps179]; omega) ?_
   simp -implicitDefEqProofs only [go_sem, Tryz.results179]
   refine callF (HV) (by simp -implicitDefEqProofs only [go_sem]) ?_
   simp -implicitDefEqProofs only [go_sem]
   refine callF (HN) (by simp -implicitDefEqProofs only [go_sem]) ?_
   simp -implicitDefEqProofs only [go_sem]
  | [(n, t)], _ =>
   have HO := l4Find_one n t a.name
   have HK := l2Own_c t (hw (n, t) (by simp))
   have hS : sbS [(n, t)] = .sl 3 [[.str n, .str t.name, .sl 2 (t.args.map tmC)]] := by unfold sbS; rw [List.map_singleton, bnC_eq]
   rw [hS] at HO ⊢
   cases hn : n == a.name
   ·rw [hn] at HO
    simp only [List.find?_cons, hn, List.find?_nil]
    have e1 : tmD (.mk a.name []) = .agg [.str a.name, .sl 2 []] := rfl
    rw [e1]
    simp only [tmD, tmC_eq a]
    refine FC_of Tryz.call179 Tryz.func179 rfl (by kernel_rfl) (by simp only [rd, List.map_cons, List.map_nil, List.length_cons, List.length_nil, Tryz.ntmps179]; omega) ?_
    simp -implicitDefEqProofs only [go_sem, Tryz.results179]
    refine callF (HV) (by simp -implicitDefEqProofs only [go_sem]) ?_
    simp -implicitDefEqProofs only [go_sem]
    refine callF (HO) (by simp -implicitDefEqProofs only [go_sem]) ?_
    simp -implicitDefEqProofs only [go_sem]
   ·rw [hn] at HO
    simp only [List.find?_cons, hn]
    simp only [tmD, tmC_eq a, tmC_eq t] at HK ⊢
    refine FC_of Tryz.call179 Tryz.func179 rfl (by kernel_rfl) (by simp only [rd, List.map_cons, List.map_nil, List.length_cons, List.length_nil, Tryz.ntmps179]; omega) ?_
    simp -implicitDefEqProofs only [go_sem, Tryz.results179]
    refine callF (HV) (by simp -implicitDefEqProofs only [go_sem]) ?_
    simp -implicitDefEqProofs only [go_sem]
    refine callF (HO) (by simp -implicitDefEqProofs only [go_sem]) ?_
    simp -implicitDefEqProofs only [go_sem]
    refine callF (HK) (by simp -implicitDefEqProofs only [go_sem]) ?_
    simp -implicitDefEqProofs only [go_sem]
theorem l4Apply_c (l : List (Str × Tm)) (hl : l.length ≤ 1) (hw : ∀ p ∈ l, p.2.wt ≤ 1048576) : ∀ a : Tm, a.wt ≤ 1048576 → FC Tryz.prog 179 [.agg [sbS l], tmD a] [tmD (putT l a)] :=
 tm_ind fun m xs ih hs => by
  obtain ⟨h1, h2⟩ := Tm.wt_args hs
  exact l4Apply_of l hl hw (.mk m xs) h1 fun x hx => ih x hx (h2 x hx)
end Go.Proofs.YtbccfiillleimaaGreat
namespace Go.Proofs.YtbccfiillleimaaGreat
set_option linter.unusedSimpArgs false
set_option linter.unusedVariables false
set_option linter.unusedSectionVars false
set_option maxRecDepth 4000
open Go.RowKit
def bnd (n : Str) (t : Tm) : List (Str × Tm) := if (t.name == n) = true then [] else [(n, t)]
def frees (ps : List Fm) : List Str := match ps with
 | p :: _ => putSs [] (vf p [])
 | [] => []
def putF (n : Str) (t : Tm) : Fm → Fm × Bool := Fm.fold fun o a v ps rs =>
 if (o == 3) = true then (.mk o (putT (bnd n t) a) v [], (putT (bnd n t) a).atomOk)
 else if (isQ o && (v == n || !((frees ps).contains n))) = true then (.mk o a v ps, true)
 else if (isQ o && (putSs [] (voS t)).contains v) = true then (.mk o (.mk [] []) v [], false)
 else (.mk o (.mk [] []) v ((rs.takeWhile Prod.snd).map Prod.fst), rs.all Prod.snd)
theorem tw_map {α β : Type} (p : β → Bool) (f : α → β) : ∀ xs : List α, (xs.map f).takeWhile p = (xs.takeWhile fun x => p (f x)).map f
 | [] => rfl
 | x :: xs => by
  simp only [List.map_cons, List.takeWhile_cons]
  cases p (f x)
  ·rfl
  ·simp only [if_true, List.map_cons, tw_map p f xs]
theorem putF_eq (n : Str) (t : Tm) (f : Fm) : putF n t f = if (f.op == 3) = true then (.mk f.op (putT (bnd n t) f.atom) f.var [], (putT (bnd n t) f.atom).atomOk)
  else if (isQ f.op && (f.var == n || !((frees f.parts).contains n))) = true then (f, true)
  else if (isQ f.op && (putSs [] (voS t)).contains f.var) = true then (.mk f.op (.mk [] []) f.var [], false)
  else (.mk f.op (.mk [] []) f.var ((f.parts.takeWhile fun x => (putF n t x).2).map fun x => (putF n t x).1), f.parts.all fun x => (putF n t x).2) := by
 cases f with
 | mk o a v ps =>
  conv => lhs; unfold putF; rw [Fm.fold_eq]
  simp only [tw_map, List.map_map, List.all_map]
  rfl
theorem q_parts {f : Fm} (h : isQ f.op = true) (hf : f.forms = true) : ∃ p, f.parts = [p] ∧ p.forms = true := by
 rw [Fm.forms_eq, Bool.and_eq_true] at hf
 have h1 := hf.1
 unfold Fm.here at h1
 have h2 : (f.op == 1 || f.op == 2) = false ∧ (f.op == 3) = false ∧ (f.op == 4) = false ∧ isBi f.op = false := by
  have h8 : f.op = 8 ∨ f.op = 9 := by unfold isQ at h; rw [Bool.or_eq_true, beq_iff_eq, beq_iff_eq] at h; exact h
  rcases h8 with e | e <;> rw [e] <;> decide
 rw [h2.1, h2.2.1, h2.2.2.1, h2.2.2.2, h] at h1
 simp only [Bool.false_eq_true, if_false, if_true, Bool.and_eq_true, decide_eq_true_eq] at h1
 obtain ⟨p, hp⟩ := List.length_eq_one_iff.1 h1.1.1
 exact ⟨p, hp, List.all_eq_true.1 hf.2 p (by rw [hp]; simp)⟩
theorem bnd_len (n : Str) (t : Tm) : (bnd n t).length ≤ 1 := by unfold bnd; split <;> simp
theorem bnd_wt (n : Str) (t : Tm) (ht : t.wt ≤ 1048576) : ∀ p ∈ bnd n t, p.2.wt ≤ 1048576 := by
 unfold bnd
 split
 ·simp
 ·intro p hp; simp at hp; rw [hp]; exact ht
set_option maxHeartbeats 2000000 in
theorem l8Put_of (n : Str) (t : Tm) (ht : t.wt ≤ 1048576) (f : Fm) (hf : f.forms = true) (hw : f.wt ≤ 1048576) (hwa : (putT (bnd n t) f.atom).wt ≤ 1099511627776) (H : ∀ x ∈ f.parts, FC Tryz.prog 114 [fmD x, sD n, tmD t] [fmD (putF n t x).1, bD (putF n t x).2]) :
  FC Tryz.prog 114 [fmD f, sD n, tmD t] [fmD (putF n t f).1, bD (putF n t f).2] := by
 have hv := putF_eq n t f
 have hfl : f.parts.length ≤ 1048576 := by have := f.wt_eq; omega
 cases h3 : f.op == 3
 ·rw [h3, if_neg (by simp)] at hv
  cases hq : isQ f.op
  ·rw [hq, Bool.false_and, if_neg (by simp), Bool.false_and, if_neg (by simp)] at hv
   have hq8 : (f.op == 8) = false ∧ (f.op == 9) = false := by unfold isQ at hq; rw [Bool.or_eq_false_iff] at hq; exact hq
   simp only [fmD, fmC_eq f, tmD, tmC_eq t]
   refine FC_of Tryz.call114 Tryz.func114 rfl (by kernel_rfl) (by simp only [rd, List.map_cons, List.map_nil, List.length_cons, List.length_nil, Tryz.ntmps114]; omega) ?_
   simp -implicitDefEqProofs only [go_sem, Tryz.results114, h3, hq8.1, hq8.2]
   refine loop_rule (fun k : Nat => hd [(1, vT (.str n)), (3, .one (.bx 3 0)), (5, .one (.bx 5 0)), (6, .one (.bx 6 0)), (8, .one (.bx 8 0)), (9, vI k)] [(3, [.t (.int .i64 f.op), .t (.str f.atom.name), .t (tmS f.atom.args), .t (.str f.var), .t (fmS f.parts)]), (5, [.t (.str t.name), .t (tmS t.args)]), (6, [.t (.int .i64 0), .t (.str []), .nl 2, .t (.str []), .nl 5]), (8, [.t (.int .i64 f.op), .t (.str []), .nl 2, .t (.str f.var), .ow 8000 0])] [(8000, ⟨true, 5, (f.parts.take k).map fun x => fmC (putF n t x).1, 0, true⟩)]) (fun k => k ≤ f.parts.length ∧ ∀ x ∈ f.parts.take k, (putF n t x).2 = true) (fun k => f.parts.length - k) 0 (weak_hd ?_) ⟨Nat.zero_le _, by simp⟩ ?_
   ·simp -implicitDefEqProofs only [go_sem]
   ·rintro k ⟨hk, hT⟩
    by_cases hlt : k < f.parts.length
    ·have HC := H f.parts[k] (List.getElem_mem hlt)
     have hmin : min k f.parts.length ≤ 4294967295 := by omega
     simp only [fmD, fmC_eq f.parts[k], fmC_eq (putF n t f.parts[k]).1, tmD, tmC_eq t] at HC
     cases hk2 : (putF n t f.parts[k]).2
     ·rw [hk2] at HC
      have htw := (takeW_at (p := fun x => (putF n t x).2) hk hT fun _ => hk2).1
      have hall : (f.parts.all fun x => (putF n t x).2) = false := by rw [List.all_eq_false]; exact ⟨_, List.getElem_mem hlt, by rw [hk2]; simp⟩
      rw [htw, hall] at hv
      rw [hv]
      simp -implicitDefEqProofs only [go_sem, hlt]
      refine drawn (by kernel_rfl) ?_
      simp -implicitDefEqProofs only [go_sem, getD_at, hlt, fmC_eq f.parts[k]]
      refine dCallF (HC) (by simp -implicitDefEqProofs only [go_sem]) ?_
      simp -implicitDefEqProofs only [go_sem]
      refine ⟨by kernel_rfl, ?_⟩
      simp -implicitDefEqProofs only [go_sem, fmC_mk, List.map_map, Function.comp_def]
      exact ⟨rfl, rfl⟩
     ·rw [hk2] at HC
      simp -implicitDefEqProofs only [go_sem, hlt]
      refine drawn (by kernel_rfl) ?_
      simp -implicitDefEqProofs only [go_sem, getD_at, hlt, fmC_eq f.parts[k]]
      refine dCallF (HC) (by simp -implicitDefEqProofs only [go_sem]) ?_
      simp -implicitDefEqProofs only [go_sem]
      refine ⟨by kernel_rfl, ?_⟩
      refine buildDc (by simp -implicitDefEqProofs only [go_sem]) ?_
      simp -implicitDefEqProofs only [go_sem]
      refine apD true (by simp -implicitDefEqProofs only [go_sem, ne_eq, List.length_map, List.length_take, hmin]) ?_
      simp -implicitDefEqProofs only [go_sem, ne_eq, List.length_map, List.length_take, hmin]
      refine ⟨k + 1, ⟨hlt, fun x hx => ?_⟩, by omega, weak_hd ?_⟩
      ·rw [List.take_succ_eq_append_getElem hlt] at hx
       rcases List.mem_append.1 hx with hx | hx
       ·exact hT x hx
       ·rw [List.mem_singleton] at hx; subst hx; exact hk2
      ·simp -implicitDefEqProofs only [go_sem]
       rw [wrap_s (by omega), List.take_succ_eq_append_getElem hlt, List.map_append, List.map_singleton]
       simp only [fmC_eq]
       trivial
    ·have htk : f.parts.take k = f.parts := List.take_of_length_le (by omega)
     rw [htk] at hT
     have hall : (f.parts.all fun x => (putF n t x).2) = true := List.all_eq_true.2 hT
     have htw : (f.parts.takeWhile fun x => (putF n t x).2) = f.parts := by
      have := (takeW_at (l := f.parts) (p := fun x => (putF n t x).2) (k := f.parts.length) (Nat.le_refl _) (by rw [List.take_length]; exact hT) fun h => absurd h (Nat.lt_irrefl _)).1
      rw [this, List.take_length]
     rw [htw, hall] at hv
     rw [hv]
     simp -implicitDefEqProofs only [go_sem, hlt, htk, fmC_mk, List.map_map, Function.comp_def]
     exact ⟨rfl, rfl⟩
  ·obtain ⟨q, hp, hpf⟩ := q_parts hq hf
   have key : (f.op == 8) = true ∨ ((f.op == 8) = false ∧ (f.op == 9) = true) := by
    have hq8 := hq
    unfold isQ at hq8
    cases h8 : f.op == 8
    ·rw [h8, Bool.false_or] at hq8; exact Or.inr ⟨rfl, hq8⟩
    ·exact Or.inl rfl
   have HFr := l8Free_c q hpf (by have := f.wt_eq; rw [hp] at this; simp only [List.map_cons, List.map_nil, List.sum_cons, List.sum_nil] at this; omega)
   have HOw := l8Own_c f hw
   have hfr : frees f.parts = putSs [] (vf q []) := by rw [hp]; rfl
   rw [hfr] at hv
   generalize putSs [] (vf q []) = V at hv HFr
   have HIn := l2In_c V n
   have hvl := voS_len t
   have HVs := l2Vars_c t (by omega) (by omega)
   generalize putSs [] (voS t) = TV at hv HVs
   have HIt := l2In_c TV f.var
   rw [hq, Bool.true_and, Bool.true_and] at hv
   have hp0 : f.parts.length = 1 := by rw [hp]; rfl
   have e0 : (List.map fmC f.parts).getD 0 [] = fmC q := by rw [hp]; rfl
   cases hvn : f.var == n
   ·rw [hvn, Bool.false_or] at hv
    cases hcn : V.contains n
    ·rw [hcn, if_pos (by simp)] at hv
     rw [hcn] at HIn
     rw [hv]
     simp only [fmD, fmC_eq f, tmD, tmC_eq t, fmC_eq q] at HOw HFr ⊢
     rcases key with e8 | ⟨e8, e9⟩
     ·refine FC_of Tryz.call114 Tryz.func114 rfl (by kernel_rfl) (by simp only [rd, List.map_cons, List.map_nil, List.length_cons, List.length_nil, Tryz.ntmps114]; omega) ?_
      simp -implicitDefEqProofs only [go_sem, Tryz.results114, h3, e8, hvn, hp0, e0, fmC_eq q]
      refine callF (HFr) (by simp -implicitDefEqProofs only [go_sem]) ?_
      simp -implicitDefEqProofs only [go_sem]
      refine callF (HIn) (by simp -implicitDefEqProofs only [go_sem]) ?_
      simp -implicitDefEqProofs only [go_sem]
      refine callF (HOw) (by simp -implicitDefEqProofs only [go_sem]) ?_
      simp -implicitDefEqProofs only [go_sem]
     ·refine FC_of Tryz.call114 Tryz.func114 rfl (by kernel_rfl) (by simp only [rd, List.map_cons, List.map_nil, List.length_cons, List.length_nil, Tryz.ntmps114]; omega) ?_
      simp -implicitDefEqProofs only [go_sem, Tryz.results114, h3, e8, e9, hvn, hp0, e0, fmC_eq q]
      refine callF (HFr) (by simp -implicitDefEqProofs only [go_sem]) ?_
      simp -implicitDefEqProofs only [go_sem]
      refine callF (HIn) (by simp -implicitDefEqProofs only [go_sem]) ?_
      simp -implicitDefEqProofs only [go_sem]
      refine callF (HOw) (by simp -implicitDefEqProofs only [go_sem]) ?_
      simp -implicitDefEqProofs only [go_sem]
    ·rw [hcn, if_neg (by simp)] at hv
     rw [hcn] at HIn
     cases hti : TV.contains f.var
     ·rw [hti, if_neg (by simp)] at hv
      rw [hti] at HIt
      simp only [fmD, fmC_eq f, tmD, tmC_eq t, fmC_eq q] at HVs HFr ⊢
      rcases key with e8 | ⟨e8, e9⟩
      ·refine FC_of Tryz.call114 Tryz.func114 rfl (by kernel_rfl) (by simp only [rd, List.map_cons, List.map_nil, List.length_cons, List.length_nil, Tryz.ntmps114]; omega) ?_
       simp -implicitDefEqProofs only [go_sem, Tryz.results114, h3, e8, hvn, hp0, e0, fmC_eq q]
       refine callF (HFr) (by simp -implicitDefEqProofs only [go_sem]) ?_
       simp -implicitDefEqProofs only [go_sem]
       refine callF (HIn) (by simp -implicitDefEqProofs only [go_sem]) ?_
       simp -implicitDefEqProofs only [go_sem]
       refine drawn (by kernel_rfl) ?_
       simp -implicitDefEqProofs only [go_sem]
       refine dCallF (HVs) (by simp -implicitDefEqProofs only [go_sem]) ?_
       simp -implicitDefEqProofs only [go_sem]
       refine dCallF (HIt) (by simp -implicitDefEqProofs only [go_sem]) ?_
       simp -implicitDefEqProofs only [go_sem]
       refine ⟨by kernel_rfl, ?_⟩
       refine loop_rule (fun k : Nat => hd [(1, vT (.str n)), (3, .one (.bx 3 0)), (5, .one (.bx 5 0)), (6, .one (.bx 6 0)), (8, .one (.bx 8 0)), (9, vI k)] [(3, [.t (.int .i64 f.op), .t (.str f.atom.name), .t (tmS f.atom.args), .t (.str f.var), .t (fmS f.parts)]), (5, [.t (.str t.name), .t (tmS t.args)]), (6, [.t (.int .i64 0), .t (.str []), .nl 2, .t (.str []), .nl 5]), (8, [.t (.int .i64 f.op), .t (.str []), .nl 2, .t (.str f.var), .ow 8000 0])] [(8000, ⟨true, 5, (f.parts.take k).map fun x => fmC (putF n t x).1, 0, true⟩)]) (fun k => k ≤ f.parts.length ∧ ∀ x ∈ f.parts.take k, (putF n t x).2 = true) (fun k => f.parts.length - k) 0 (weak_hd ?_) ⟨Nat.zero_le _, by simp⟩ ?_
       ·simp -implicitDefEqProofs only [go_sem]
       ·rintro k ⟨hk, hT⟩
        by_cases hlt : k < f.parts.length
        ·have HC := H f.parts[k] (List.getElem_mem hlt)
         have hmin : min k f.parts.length ≤ 4294967295 := by omega
         simp only [fmD, fmC_eq f.parts[k], fmC_eq (putF n t f.parts[k]).1, tmD, tmC_eq t] at HC
         cases hk2 : (putF n t f.parts[k]).2
         ·rw [hk2] at HC
          have htw := (takeW_at (p := fun x => (putF n t x).2) hk hT fun _ => hk2).1
          have hall : (f.parts.all fun x => (putF n t x).2) = false := by rw [List.all_eq_false]; exact ⟨_, List.getElem_mem hlt, by rw [hk2]; simp⟩
          rw [htw, hall] at hv
          rw [hv]
          simp -implicitDefEqProofs only [go_sem, hlt]
          refine drawn (by kernel_rfl) ?_
          simp -implicitDefEqProofs only [go_sem, getD_at, hlt, fmC_eq f.parts[k]]
          refine dCallF (HC) (by simp -implicitDefEqProofs only [go_sem]) ?_
          simp -implicitDefEqProofs only [go_sem]
          refine ⟨by kernel_rfl, ?_⟩
          simp -implicitDefEqProofs only [go_sem, fmC_mk, List.map_map, Function.comp_def]
          exact ⟨rfl, rfl⟩
         ·rw [hk2] at HC
          simp -implicitDefEqProofs only [go_sem, hlt]
          refine drawn (by kernel_rfl) ?_
          simp -implicitDefEqProofs only [go_sem, getD_at, hlt, fmC_eq f.parts[k]]
          refine dCallF (HC) (by simp -implicitDefEqProofs only [go_sem]) ?_
          simp -implicitDefEqProofs only [go_sem]
          refine ⟨by kernel_rfl, ?_⟩
          refine buildDc (by simp -implicitDefEqProofs only [go_sem]) ?_
          simp -implicitDefEqProofs only [go_sem]
          refine apD true (by simp -implicitDefEqProofs only [go_sem, ne_eq, List.length_map, List.length_take, hmin]) ?_
          simp -implicitDefEqProofs only [go_sem, ne_eq, List.length_map, List.length_take, hmin]
          refine ⟨k + 1, ⟨hlt, fun x hx => ?_⟩, by omega, weak_hd ?_⟩
          ·rw [List.take_succ_eq_append_getElem hlt] at hx
           rcases List.mem_append.1 hx with hx | hx
           ·exact hT x hx
           ·rw [List.mem_singleton] at hx; subst hx; exact hk2
          ·simp -implicitDefEqProofs only [go_sem]
           rw [wrap_s (by omega), List.take_succ_eq_append_getElem hlt, List.map_append, List.map_singleton]
           simp only [fmC_eq]
           trivial
        ·have htk : f.parts.take k = f.parts := List.take_of_length_le (by omega)
         rw [htk] at hT
         have hall : (f.parts.all fun x => (putF n t x).2) = true := List.all_eq_true.2 hT
         have htw : (f.parts.takeWhile fun x => (putF n t x).2) = f.parts := by
          have := (takeW_at (l := f.parts) (p := fun x => (putF n t x).2) (k := f.parts.length) (Nat.le_refl _) (by rw [List.take_length]; exact hT) fun h => absurd h (Nat.lt_irrefl _)).1
          rw [this, List.take_length]
         rw [htw, hall] at hv
         rw [hv]
         simp -implicitDefEqProofs only [go_sem, hlt, htk, fmC_mk, List.map_map, Function.comp_def]
         exact ⟨rfl, rfl⟩
      ·refine FC_of Tryz.call114 Tryz.func114 rfl (by kernel_rfl) (by simp only [rd, List.map_cons, List.map_nil, List.length_cons, List.length_nil, Tryz.ntmps114]; omega) ?_
       simp -implicitDefEqProofs only [go_sem, Tryz.results114, h3, e8, e9, hvn, hp0, e0, fmC_eq q]
       refine callF (HFr) (by simp -implicitDefEqProofs only [go_sem]) ?_
       simp -implicitDefEqProofs only [go_sem]
       refine callF (HIn) (by simp -implicitDefEqProofs only [go_sem]) ?_
       simp -implicitDefEqProofs only [go_sem]
       refine drawn (by kernel_rfl) ?_
       simp -implicitDefEqProofs only [go_sem]
       refine dCallF (HVs) (by simp -implicitDefEqProofs only [go_sem]) ?_
       simp -implicitDefEqProofs only [go_sem]
       refine dCallF (HIt) (by simp -implicitDefEqProofs only [go_sem]) ?_
       simp -implicitDefEqProofs only [go_sem]
       refine ⟨by kernel_rfl, ?_⟩
       refine loop_rule (fun k : Nat => hd [(1, vT (.str n)), (3, .one (.bx 3 0)), (5, .one (.bx 5 0)), (6, .one (.bx 6 0)), (8, .one (.bx 8 0)), (9, vI k)] [(3, [.t (.int .i64 f.op), .t (.str f.atom.name), .t (tmS f.atom.args), .t (.str f.var), .t (fmS f.parts)]), (5, [.t (.str t.name), .t (tmS t.args)]), (6, [.t (.int .i64 0), .t (.str []), .nl 2, .t (.str []), .nl 5]), (8, [.t (.int .i64 f.op), .t (.str []), .nl 2, .t (.str f.var), .ow 8000 0])] [(8000, ⟨true, 5, (f.parts.take k).map fun x => fmC (putF n t x).1, 0, true⟩)]) (fun k => k ≤ f.parts.length ∧ ∀ x ∈ f.parts.take k, (putF n t x).2 = true) (fun k => f.parts.length - k) 0 (weak_hd ?_) ⟨Nat.zero_le _, by simp⟩ ?_
       ·simp -implicitDefEqProofs only [go_sem]
       ·rintro k ⟨hk, hT⟩
        by_cases hlt : k < f.parts.length
        ·have HC := H f.parts[k] (List.getElem_mem hlt)
         have hmin : min k f.parts.length ≤ 4294967295 := by omega
         simp only [fmD, fmC_eq f.parts[k], fmC_eq (putF n t f.parts[k]).1, tmD, tmC_eq t] at HC
         cases hk2 : (putF n t f.parts[k]).2
         ·rw [hk2] at HC
          have htw := (takeW_at (p := fun x => (putF n t x).2) hk hT fun _ => hk2).1
          have hall : (f.parts.all fun x => (putF n t x).2) = false := by rw [List.all_eq_false]; exact ⟨_, List.getElem_mem hlt, by rw [hk2]; simp⟩
          rw [htw, hall] at hv
          rw [hv]
          simp -implicitDefEqProofs only [go_sem, hlt]
          refine drawn (by kernel_rfl) ?_
          simp -implicitDefEqProofs only [go_sem, getD_at, hlt, fmC_eq f.parts[k]]
          refine dCallF (HC) (by simp -implicitDefEqProofs only [go_sem]) ?_
          simp -implicitDefEqProofs only [go_sem]
          refine ⟨by kernel_rfl, ?_⟩
          simp -implicitDefEqProofs only [go_sem, fmC_mk, List.map_map, Function.comp_def]
          exact ⟨rfl, rfl⟩
         ·rw [hk2] at HC
          simp -implicitDefEqProofs only [go_sem, hlt]
          refine drawn (by kernel_rfl) ?_
          simp -implicitDefEqProofs only [go_sem, getD_at, hlt, fmC_eq f.parts[k]]
          refine dCallF (HC) (by simp -implicitDefEqProofs only [go_sem]) ?_
          simp -implicitDefEqProofs only [go_sem]
          refine ⟨by kernel_rfl, ?_⟩
          refine buildDc (by simp -implicitDefEqProofs only [go_sem]) ?_
          simp -implicitDefEqProofs only [go_sem]
          refine apD true (by simp -implicitDefEqProofs only [go_sem, ne_eq, List.length_map, List.length_take, hmin]) ?_
          simp -implicitDefEqProofs only [go_sem, ne_eq, List.length_map, List.length_take, hmin]
          refine ⟨k + 1, ⟨hlt, fun x hx => ?_⟩, by omega, weak_hd ?_⟩
          ·rw [List.take_succ_eq_append_getElem hlt] at hx
           rcases List.mem_append.1 hx with hx | hx
           ·exact hT x hx
           ·rw [List.mem_singleton] at hx; subst hx; exact hk2
          ·simp -implicitDefEqProofs only [go_sem]
           rw [wrap_s (by omega), List.take_succ_eq_append_getElem hlt, List.map_append, List.map_singleton]
           simp only [fmC_eq]
           trivial
        ·have htk : f.parts.take k = f.parts := List.take_of_length_le (by omega)
         rw [htk] at hT
         have hall : (f.parts.all fun x => (putF n t x).2) = true := List.all_eq_true.2 hT
         have htw : (f.parts.takeWhile fun x => (putF n t x).2) = f.parts := by
          have := (takeW_at (l := f.parts) (p := fun x => (putF n t x).2) (k := f.parts.length) (Nat.le_refl _) (by rw [List.take_length]; exact hT) fun h => absurd h (Nat.lt_irrefl _)).1
          rw [this, List.take_length]
         rw [htw, hall] at hv
         rw [hv]
         simp -implicitDefEqProofs only [go_sem, hlt, htk, fmC_mk, List.map_map, Function.comp_def]
         exact ⟨rfl, rfl⟩
     ·rw [hti, if_pos rfl] at hv
      rw [hti] at HIt
      rw [hv]
      have e5 : fmD (.mk f.op (.mk [] []) f.var []) = .agg [.int .i64 f.op, .str [], .sl 2 [], .str f.var, .sl 5 []] := by unfold fmD; rw [fmC_eq]; rfl
      rw [e5]
      simp only [fmD, fmC_eq f, tmD, tmC_eq t, fmC_eq q] at HVs HFr ⊢
      rcases key with e8 | ⟨e8, e9⟩
      ·refine FC_of Tryz.call114 Tryz.func114 rfl (by kernel_rfl) (by simp only [rd, List.map_cons, List.map_nil, List.length_cons, List.length_nil, Tryz.ntmps114]; omega) ?_
       simp -implicitDefEqProofs only [go_sem, Tryz.results114, h3, e8, hvn, hp0, e0, fmC_eq q]
       refine callF (HFr) (by simp -implicitDefEqProofs only [go_sem]) ?_
       simp -implicitDefEqProofs only [go_sem]
       refine callF (HIn) (by simp -implicitDefEqProofs only [go_sem]) ?_
       simp -implicitDefEqProofs only [go_sem]
       refine drawn (by kernel_rfl) ?_
       simp -implicitDefEqProofs only [go_sem]
       refine dCallF (HVs) (by simp -implicitDefEqProofs only [go_sem]) ?_
       simp -implicitDefEqProofs only [go_sem]
       refine dCallF (HIt) (by simp -implicitDefEqProofs only [go_sem]) ?_
       simp -implicitDefEqProofs only [go_sem]
       kernel_rfl
      ·refine FC_of Tryz.call114 Tryz.func114 rfl (by kernel_rfl) (by simp only [rd, List.map_cons, List.map_nil, List.length_cons, List.length_nil, Tryz.ntmps114]; omega) ?_
       simp -implicitDefEqProofs only [go_sem, Tryz.results114, h3, e8, e9, hvn, hp0, e0, fmC_eq q]
       refine callF (HFr) (by simp -implicitDefEqProofs only [go_sem]) ?_
       simp -implicitDefEqProofs only [go_sem]
       refine callF (HIn) (by simp -implicitDefEqProofs only [go_sem]) ?_
       simp -implicitDefEqProofs only [go_sem]
       refine drawn (by kernel_rfl) ?_
       simp -implicitDefEqProofs only [go_sem]
       refine dCallF (HVs) (by simp -implicitDefEqProofs only [go_sem]) ?_
       simp -implicitDefEqProofs only [go_sem]
       refine dCallF (HIt) (by simp -implicitDefEqProofs only [go_sem]) ?_
       simp -implicitDefEqProofs only [go_sem]
       kernel_rfl
   ·rw [hvn, Bool.true_or, if_pos rfl] at hv
    rw [hv]
    simp only [fmD, fmC_eq f, tmD, tmC_eq t] at HOw ⊢
    rcases key with e8 | ⟨e8, e9⟩
    ·refine FC_of Tryz.call114 Tryz.func114 rfl (by kernel_rfl) (by simp only [rd, List.map_cons, List.map_nil, List.length_cons, List.length_nil, Tryz.ntmps114]; omega) ?_
     simp -implicitDefEqProofs only [go_sem, Tryz.results114, h3, e8, hvn]
     refine callF (HOw) (by simp -implicitDefEqProofs only [go_sem]) ?_
     simp -implicitDefEqProofs only [go_sem]
    ·refine FC_of Tryz.call114 Tryz.func114 rfl (by kernel_rfl) (by simp only [rd, List.map_cons, List.map_nil, List.length_cons, List.length_nil, Tryz.ntmps114]; omega) ?_
     simp -implicitDefEqProofs only [go_sem, Tryz.results114, h3, e8, e9, hvn]
     refine callF (HOw) (by simp -implicitDefEqProofs only [go_sem]) ?_
     simp -implicitDefEqProofs only [go_sem]
 ·rw [h3, if_pos rfl] at hv
  have HA := l4Apply_c (bnd n t) (bnd_len n t) (bnd_wt n t ht) f.atom (by have := atom_wt f; omega)
  rw [hv]
  generalize putT (bnd n t) f.atom = R at HA hwa ⊢
  have HO := l2Atom_c R hwa
  cases hn : t.name == n
  ·have e0 : bnd n t = [(n, t)] := by unfold bnd; rw [hn, if_neg (by simp)]
   have HP := l4Put_one n t ht hn
   have hS0 : sbS [] = .sl 3 [] := rfl
   rw [e0] at HA
   generalize [(n, t)] = B at HA HP
   rw [hS0] at HP
   unfold sbS at HP HA
   generalize B.map bnC = L at HA HP
   simp only [fmD, fmC_eq f, tmD, tmC_eq t, tmC_eq f.atom, tmC_eq R, fmC_mk, List.map_nil] at HA HP HO ⊢
   refine FC_of Tryz.call114 Tryz.func114 rfl (by kernel_rfl) (by simp only [rd, List.map_cons, List.map_nil, List.length_cons, List.length_nil, Tryz.ntmps114]; omega) ?_
   simp -implicitDefEqProofs only [go_sem, Tryz.results114, h3]
   refine drawn (by kernel_rfl) ?_
   simp -implicitDefEqProofs only [go_sem]
   refine dCallF (HP) (by simp -implicitDefEqProofs only [go_sem]) ?_
   simp -implicitDefEqProofs only [go_sem]
   refine dCallF (HA) (by simp -implicitDefEqProofs only [go_sem]) ?_
   simp -implicitDefEqProofs only [go_sem]
   refine ⟨by kernel_rfl, ?_⟩
   refine drawn (by kernel_rfl) ?_
   simp -implicitDefEqProofs only [go_sem]
   refine dCallF (HO) (by simp -implicitDefEqProofs only [go_sem]) ?_
   simp -implicitDefEqProofs only [go_sem]
   kernel_rfl
  ·have e0 : bnd n t = [] := by unfold bnd; rw [hn, if_pos rfl]
   have HP := l4Put_self n t hn
   have hS0 : sbS [] = .sl 3 [] := rfl
   rw [e0] at HA
   rw [hS0] at HP HA
   simp only [fmD, fmC_eq f, tmD, tmC_eq t, tmC_eq f.atom, tmC_eq R, fmC_mk, List.map_nil] at HA HP HO ⊢
   refine FC_of Tryz.call114 Tryz.func114 rfl (by kernel_rfl) (by simp only [rd, List.map_cons, List.map_nil, List.length_cons, List.length_nil, Tryz.ntmps114]; omega) ?_
   simp -implicitDefEqProofs only [go_sem, Tryz.results114, h3]
   refine drawn (by kernel_rfl) ?_
   simp -implicitDefEqProofs only [go_sem]
   refine dCallR HP (by simp -implicitDefEqProofs only [go_sem]) ?_
   simp -implicitDefEqProofs only [go_sem]
   refine dCallF (HA) (by simp -implicitDefEqProofs only [go_sem]) ?_
   simp -implicitDefEqProofs only [go_sem]
   refine ⟨by kernel_rfl, ?_⟩
   refine drawn (by kernel_rfl) ?_
   simp -implicitDefEqProofs only [go_sem]
   refine dCallF (HO) (by simp -implicitDefEqProofs only [go_sem]) ?_
   simp -implicitDefEqProofs only [go_sem]
   kernel_rfl
end Go.Proofs.YtbccfiillleimaaGreat
namespace Go.Proofs.YtbccfiillleimaaGreat
set_option linter.unusedSimpArgs false
set_option linter.unusedVariables false
set_option linter.unusedSectionVars false
set_option maxRecDepth 4000
open Go.RowKit
theorem subT_wt (n : Str) (t : Tm) : ∀ a : Tm, (subT n t a).wt ≤ a.wt + a.nodes * t.wt := tm_ind fun m xs ih => by
 rw [subT_eq, Tm.nodes_eq]
 show (if xs.length = 0 then (if (n == m) = true then t else .mk m []) else .mk m (xs.map (subT n t))).wt ≤ (Tm.mk m xs).wt + (1 + (xs.map Tm.nodes).sum) * t.wt
 have hs : (xs.map fun x => (subT n t x).wt).sum ≤ (xs.map Tm.wt).sum + (xs.map Tm.nodes).sum * t.wt := by
  revert ih
  induction xs with
  | nil => simp
  | cons x xs ih2 =>
   intro ih
   have h1 := ih x (by simp)
   have h2 := ih2 fun y hy => ih y (by simp [hy])
   simp only [List.map_cons, List.sum_cons, Nat.add_mul]
   omega
 have h0 := Tm.wt_eq (.mk m xs)
 have h0 : (Tm.mk m xs).wt = m.length + xs.length + (xs.map Tm.wt).sum := h0
 rw [Nat.add_mul, Nat.one_mul]
 split
 ·split
  ·omega
  ·have h1 := Tm.wt_eq (.mk m [])
   have h1 : (Tm.mk m []).wt = m.length + 0 + 0 := h1
   omega
 ·have h1 := Tm.wt_eq (.mk m (xs.map (subT n t)))
  have h1 : (Tm.mk m (xs.map (subT n t))).wt = m.length + (xs.map (subT n t)).length + ((xs.map (subT n t)).map Tm.wt).sum := h1
  rw [List.length_map, List.map_map] at h1
  have h2 : (xs.map (Tm.wt ∘ subT n t)).sum = (xs.map fun x => (subT n t x).wt).sum := rfl
  omega
theorem putT_wt (l : List (Str × Tm)) (W : Nat) (hW : ∀ p ∈ l, p.2.wt ≤ W) : ∀ a : Tm, (putT l a).wt ≤ a.wt + a.nodes * W := tm_ind fun m xs ih => by
 rw [putT_eq, Tm.nodes_eq]
 show (if varOk m = true then (match l.find? fun (p : Str × Tm) => p.1 == m with | some p => p.2 | none => .mk m []) else .mk m (xs.map (putT l))).wt ≤ (Tm.mk m xs).wt + (1 + (xs.map Tm.nodes).sum) * W
 have hs : (xs.map fun x => (putT l x).wt).sum ≤ (xs.map Tm.wt).sum + (xs.map Tm.nodes).sum * W := by
  revert ih
  induction xs with
  | nil => simp
  | cons x xs ih2 =>
   intro ih
   have h1 := ih x (by simp)
   have h2 := ih2 fun y hy => ih y (by simp [hy])
   simp only [List.map_cons, List.sum_cons, Nat.add_mul]
   omega
 have h0 := Tm.wt_eq (.mk m xs)
 have h0 : (Tm.mk m xs).wt = m.length + xs.length + (xs.map Tm.wt).sum := h0
 rw [Nat.add_mul, Nat.one_mul]
 split
 ·split
  ·rename_i p hp
   have := hW p (List.mem_of_find?_eq_some hp)
   omega
  ·have h1 := Tm.wt_eq (.mk m [])
   have h1 : (Tm.mk m []).wt = m.length + 0 + 0 := h1
   omega
 ·have h1 := Tm.wt_eq (.mk m (xs.map (putT l)))
  have h1 : (Tm.mk m (xs.map (putT l))).wt = m.length + (xs.map (putT l)).length + ((xs.map (putT l)).map Tm.wt).sum := h1
  rw [List.length_map, List.map_map] at h1
  have h2 : (xs.map (Tm.wt ∘ putT l)).sum = (xs.map fun x => (putT l x).wt).sum := rfl
  omega
theorem bnd_wt' (n : Str) (t : Tm) : ∀ p ∈ bnd n t, p.2.wt ≤ t.wt := by
 unfold bnd
 split
 ·simp
 ·intro p hp; simp at hp; rw [hp]; exact Nat.le_refl _
theorem l8Put_c (n : Str) (t : Tm) (ht : t.wt ≤ 1048576) : ∀ f : Fm, f.forms = true → f.wt ≤ 1048576 → f.wt + (1 + f.wt) * t.wt ≤ 1099511627776 → FC Tryz.prog 114 [fmD f, sD n, tmD t] [fmD (putF n t f).1, bD (putF n t f).2] :=
 fm_ind fun o a v ps ih hf hw hb => by
  refine l8Put_of n t ht (.mk o a v ps) hf hw ?_ fun x hx => ih x hx (by rw [Fm.forms_eq, Bool.and_eq_true] at hf; exact List.all_eq_true.1 hf.2 x hx) (Nat.le_trans (fparts_wt (a := .mk o a v ps) hx) hw) ?_
  ·have h1 := putT_wt (bnd n t) t.wt (bnd_wt' n t) a
   have h2 := nodes_wt a
   have h3 : a.wt ≤ (Fm.mk o a v ps).wt := atom_wt (.mk o a v ps)
   have h4 : a.nodes * t.wt ≤ (1 + (Fm.mk o a v ps).wt) * t.wt := Nat.mul_le_mul_right _ (by omega)
   show (putT (bnd n t) a).wt ≤ _
   omega
  ·have h3 := fparts_wt (a := .mk o a v ps) hx
   have h4 : (1 + x.wt) * t.wt ≤ (1 + (Fm.mk o a v ps).wt) * t.wt := Nat.mul_le_mul_right _ (by omega)
   omega
theorem mkF0_wt : (mkF 0 []).wt = 0 := rfl
theorem sum_sub {α : Type} {g w : α → Nat} {W : Nat} : ∀ ps : List α, (∀ x ∈ ps, g x ≤ w x + (1 + w x) * W) → (ps.map g).sum ≤ (ps.map w).sum + (ps.length + (ps.map w).sum) * W
 | [], _ => by simp
 | x :: xs, ih => by
  have h1 := ih x (by simp)
  have h2 := sum_sub (g := g) (w := w) (W := W) xs fun y hy => ih y (by simp [hy])
  simp only [List.map_cons, List.sum_cons, List.length_cons]
  have e : (xs.length + 1 + (w x + (xs.map w).sum)) * W = (1 + w x) * W + (xs.length + (xs.map w).sum) * W := by rw [← Nat.add_mul]; congr 1; omega
  rw [e]
  omega
theorem subF_wt (n : Str) (t : Tm) : ∀ f : Fm, (subF n t f).1.wt ≤ f.wt + (1 + f.wt) * t.wt := fm_ind fun o a v ps ih => by
 rw [subF_eq]
 have h0 : (Fm.mk o a v ps).wt = a.wt + v.length + ps.length + (ps.map Fm.wt).sum := Fm.wt_eq (.mk o a v ps)
 split
 ·exact Nat.le_add_right _ _
 ·split
  ·rw [mkF0_wt]; exact Nat.zero_le _
  ·have hs : (ps.map fun x => (subF n t x).1.wt).sum ≤ (ps.map Fm.wt).sum + (ps.length + (ps.map Fm.wt).sum) * t.wt := sum_sub (g := fun x => (subF n t x).1.wt) (w := Fm.wt) (W := t.wt) ps ih
   have ha := subT_wt n t a
   have hn := nodes_wt a
   show (Fm.mk o (if (o == 3) = true then subT n t a else a) v (ps.map fun x => (subF n t x).1)).wt ≤ _
   have h1 := Fm.wt_eq (.mk o (if (o == 3) = true then subT n t a else a) v (ps.map fun x => (subF n t x).1))
   have h1 : (Fm.mk o (if (o == 3) = true then subT n t a else a) v (ps.map fun x => (subF n t x).1)).wt = (if (o == 3) = true then subT n t a else a).wt + v.length + (ps.map fun x => (subF n t x).1).length + ((ps.map fun x => (subF n t x).1).map Fm.wt).sum := h1
   rw [List.length_map, List.map_map] at h1
   have h2 : (ps.map (Fm.wt ∘ fun x => (subF n t x).1)).sum = (ps.map fun x => (subF n t x).1.wt).sum := rfl
   have h3 : (if (o == 3) = true then subT n t a else a).wt ≤ a.wt + (1 + a.wt) * t.wt := by
    have : a.nodes * t.wt ≤ (1 + a.wt) * t.wt := Nat.mul_le_mul_right _ (by omega)
    split <;> omega
   have h4 : (1 + a.wt) * t.wt + (ps.length + (ps.map Fm.wt).sum) * t.wt ≤ (1 + (Fm.mk o a v ps).wt) * t.wt := by rw [← Nat.add_mul]; exact Nat.mul_le_mul_right _ (by omega)
   omega
end Go.Proofs.YtbccfiillleimaaGreat
namespace Go.Proofs.YtbccfiillleimaaGreat
set_option linter.unusedSimpArgs false
set_option linter.unusedVariables false
set_option linter.unusedSectionVars false
set_option maxRecDepth 4000
open Go.RowKit
attribute [local go_sem] Oper.semAt_some
end Go.Proofs.YtbccfiillleimaaGreat
namespace Go.Proofs.YtbccfiillleimaaGreat
set_option linter.unusedSimpArgs false
set_option linter.unusedVariables false
set_option linter.unusedSectionVars false
set_option maxRecDepth 4000
open Go.RowKit
def mtd : Nat → Nat → Str → Str
 | 0, _, acc => acc
 | fuel + 1, n, acc => if n = 0 then acc else mtd fuel (n / 10) (UInt8.ofNat (48 + n % 10) :: acc)
def mtx (k : Nat) : Str := 109 :: mtd (k + 1) k []
theorem mtd_step (fuel n : Nat) (acc : Str) (h : 0 < n) : mtd (fuel + 1) n acc = mtd fuel (n / 10) (UInt8.ofNat (48 + n % 10) :: acc) := by rw [mtd, if_neg (by omega)]
theorem mtd_fuel : ∀ (f f' n : Nat) (acc : Str), n < f → n < f' → mtd f n acc = mtd f' n acc
 | 0, _, n, _, h, _ => absurd h (by omega)
 | _ + 1, 0, n, _, _, h => absurd h (by omega)
 | f + 1, f' + 1, n, acc, h, h' => by
  by_cases h0 : n = 0
  ·simp [mtd, h0]
  ·rw [mtd_step _ _ _ (by omega), mtd_step _ _ _ (by omega)]
   exact mtd_fuel f f' _ _ (by omega) (by omega)
theorem wrap_u8 {n : Nat} (h : n < 256) : IntKind.u8.wrap (n : Int) = n := by
 have e : IntKind.u8.wrap (n : Int) = (n : Int) % 256 := rfl
 rw [e]; omega
theorem markText_c (k : Nat) (hk0 : 0 < k) (hk : k ≤ 4611686018427387904) : FC Tryz.prog 100 [iD k] [sD (mtx k)] := by
 have h0 : ((k : Int) ≤ 0) = False := by simp; omega
 refine FC_of Tryz.call100 Tryz.func100 rfl (by kernel_rfl) (by simp only [rd, List.map_cons, List.map_nil, List.length_cons, List.length_nil, Tryz.ntmps100]; omega) ?_
 simp -implicitDefEqProofs only [go_sem, Tryz.results100, h0]
 refine loop_rule (fun (x : Nat × Str) => hd [(0, vI x.1), (3, vT (.str x.2))] [] []) (fun x => mtx k = 109 :: mtd (x.1 + 1) x.1 x.2 ∧ x.1 * 10 ^ x.2.length ≤ k ∧ x.2.length ≤ 19) (fun x => x.1) (k, []) (weak_hd ?_) ?_ ?_
 ·simp -implicitDefEqProofs only [go_sem]
 ·exact ⟨rfl, by simp, by simp⟩
 ·intro ⟨n, s⟩ ⟨h1, h2, hl⟩
  have hl : s.length ≤ 19 := hl
  have hn : n ≤ k := Nat.le_trans (Nat.le_mul_of_pos_right _ (Nat.pow_pos (by omega))) h2
  have hs : s.length ≤ 18 ∨ n = 0 := by
   by_cases h : n = 0
   ·exact Or.inr h
   ·left
    refine Nat.le_of_not_lt fun hl => ?_
    have : 10 ^ 19 ≤ 10 ^ s.length := Nat.pow_le_pow_right (by omega) (by omega)
    have : 1 * 10 ^ s.length ≤ n * 10 ^ s.length := Nat.mul_le_mul_right _ (by omega)
    have h2 : n * 10 ^ s.length ≤ k := h2
    omega
  by_cases hp : 0 < n
  ·have hp' : ((n : Int) > 0) = True := by simp; omega
   have e1 : (n : Int).tmod 10 = ((n % 10 : Nat) : Int) := by rw [Int.tmod_eq_emod_of_nonneg (by omega)]; omega
   have e2 : (n : Int).tdiv 10 = ((n / 10 : Nat) : Int) := by rw [Int.tdiv_eq_ediv_of_nonneg (by omega)]; omega
   have e3 : IntKind.i64.wrap (48 + ((n % 10 : Nat) : Int)) = ((48 + n % 10 : Nat) : Int) := by rw [wrap_in (by omega) (by omega)]; omega
   have e4 : IntKind.u8.wrap ((48 + n % 10 : Nat) : Int) = ((48 + n % 10 : Nat) : Int) := wrap_u8 (by omega)
   have e5 : IntKind.i64.wrap ((n / 10 : Nat) : Int) = ((n / 10 : Nat) : Int) := wrap_in (by omega) (by omega)
   simp -implicitDefEqProofs only [go_sem, hp', e1, e2, e3, e4, e5]
   refine ⟨by omega, ?_⟩
   refine buildDc (by simp -implicitDefEqProofs only [go_sem]) ?_
   simp -implicitDefEqProofs only [go_sem]
   have hs' : s.length ≤ 18 := by omega
   refine ⟨by omega, by omega, (n / 10, UInt8.ofNat (48 + n % 10) :: s), ⟨?_, ?_, show s.length + 1 ≤ 19 by omega⟩, by omega, weak_hd (by simp -implicitDefEqProofs only [go_sem, e2, e5])⟩
   ·rw [h1]
    show (109 :: mtd (n + 1) n s : Str) = 109 :: mtd (n / 10 + 1) (n / 10) (UInt8.ofNat (48 + n % 10) :: s)
    rw [mtd_step _ _ _ hp, mtd_fuel n (n / 10 + 1) _ _ (by omega) (by omega)]
   ·show n / 10 * 10 ^ (s.length + 1) ≤ k
    rw [Nat.pow_succ, Nat.mul_comm _ 10, ← Nat.mul_assoc]
    exact Nat.le_trans (Nat.mul_le_mul_right _ (by omega)) h2
  ·have h0' : n = 0 := by omega
   subst h0'
   simp -implicitDefEqProofs only [go_sem]
   refine ⟨by omega, ?_⟩
   rw [h1]; simp [mtd]
end Go.Proofs.YtbccfiillleimaaGreat
namespace Go.Proofs.YtbccfiillleimaaGreat
set_option linter.unusedSimpArgs false
set_option linter.unusedVariables false
set_option linter.unusedSectionVars false
set_option maxRecDepth 4000
open Go.RowKit
mutual
def mk1Tms : Tm → Nat → Tm × Nat
 | .mk n0 s0, k => (.mk (mtx k) (mkTms s0 (k + 1)).1, (mkTms s0 (k + 1)).2)
def mkTms : List Tm → Nat → List Tm × Nat
 | [], k => ([], k)
 | a :: xs, k => ((mk1Tms a k).1 :: (mkTms xs (mk1Tms a k).2).1, (mkTms xs (mk1Tms a k).2).2)
end
mutual
def ct1Tms : Tm → Nat
 | .mk n0 s0 => 1 + 1 + ctTms s0
def ctTms : List Tm → Nat
 | [] => 0
 | a :: xs => ct1Tms a + ctTms xs
end
mutual
theorem mk1Tms_ct : ∀ (a : Tm) (k : Nat), k ≤ (mk1Tms a k).2 ∧ (mk1Tms a k).2 ≤ k + ct1Tms a
 | .mk n0 s0, k => by have h_s0 := mkTms_ct s0 (k + 1); simp only [mk1Tms, ct1Tms]; omega
theorem mkTms_ct : ∀ (xs : List Tm) (k : Nat), k ≤ (mkTms xs k).2 ∧ (mkTms xs k).2 ≤ k + ctTms xs
 | [], k => ⟨Nat.le_refl _, Nat.le_refl _⟩
 | a :: xs, k => by have h1 := mk1Tms_ct a k; have h2 := mkTms_ct xs (mk1Tms a k).2; simp only [mkTms, ctTms]; omega
end
theorem ctTms_len : ∀ xs : List Tm, xs.length ≤ ctTms xs
  | [] => Nat.le_refl _
  | a :: xs => by have := ctTms_len xs; have : 1 ≤ ct1Tms a := by obtain ⟨n0, s0⟩ := a; simp only [ct1Tms]; omega
                  simp only [List.length_cons, ctTms]; omega
theorem markTermS_of (xs : List Tm) (H : ∀ a ∈ xs, ∀ k : Nat, 0 < k → k + ctTms a.args ≤ 4611686018427387904 → IC Tryz.prog 74 [] (.one (tmS a.args)) [iD k] (.one (tmS (mkTms a.args k).1)) [iD (mkTms a.args k).2]) :
  ∀ k : Nat, 0 < k → k + ctTms xs ≤ 4611686018427387904 → IC Tryz.prog 74 [] (.one (tmS xs)) [iD k] (.one (tmS (mkTms xs k).1)) [iD (mkTms xs k).2] := by
 intro k h0 hk
 refine IC_ofP Tryz.call74 Tryz.func74 rfl (by kernel_rfl) (by simp only [argsI, rd, List.map_cons, List.map_nil, List.nil_append, List.length_cons, List.length_nil, Tryz.ntmps74]; omega) (by simp only [Tryz.ntmps74]; omega) (fun vs => ?_)
 simp -implicitDefEqProofs only [go_sem, Tryz.results74, initP, initI, argsI, PI]
 refine loop_rule (fun (x : List Tm × List Tm × Nat) => hd [(0, .one (.ow 0 0)), (1000000, .one (.ow 0 0)), (1, vI x.2.2), (5, vI x.1.length)] [] [(0, ⟨true, 2, x.1.map tmC ++ pinRs vs x.1.length (x.2.1.map tmC), 0, true⟩)])
  (fun x => (mkTms xs k).1 = x.1 ++ (mkTms x.2.1 x.2.2).1 ∧ (mkTms xs k).2 = (mkTms x.2.1 x.2.2).2 ∧ 0 < x.2.2 ∧ x.2.2 + ctTms x.2.1 ≤ 4611686018427387904 ∧ x.1.length + x.2.1.length = xs.length ∧ ∀ a ∈ x.2.1, a ∈ xs) (fun x => x.2.1.length) ([], xs, k) (weak_hd ?_) ?_ ?_
 ·simp -implicitDefEqProofs only [go_sem]
 ·exact ⟨rfl, rfl, h0, hk, by simp, fun _ h => h⟩
 ·intro ⟨dn, rest, kk⟩ ⟨h1, h2, h3, h4, h6, h5⟩
  simp only at h1 h2 h3 h4 h5 h6
  cases rest with
  | nil =>
   simp only [mkTms, List.append_nil] at h1 h2
   simp -implicitDefEqProofs only [go_sem, h1, h2]
  | cons a rest =>
   obtain ⟨n0, s0⟩ := a
   simp only [mkTms, mk1Tms, ctTms, ct1Tms] at h1 h2 h4
   have hc_s0 := mkTms_ct s0 (kk + 1)
   have w0 : IntKind.i64.wrap (((kk : Nat) : Int) + 1) = ((kk + 1 : Nat) : Int) := wrap_s (by omega)
   have hln := ctTms_len xs
   rw [List.length_cons] at h6
   have wl : IntKind.i64.wrap ((dn.length : Int) + 1) = ((dn.length + 1 : Nat) : Int) := wrap_s (by omega)
   simp -implicitDefEqProofs only [go_sem, tmC_eq (.mk _ _), Tm.name, Tm.args]
   refine callF (markText_c kk (by omega) (by omega)) (by simp -implicitDefEqProofs only [go_sem, w0]) ?_
   simp -implicitDefEqProofs only [go_sem, w0]
   refine storeD (by simp -implicitDefEqProofs only [go_sem, implies_true, w0]) ?_
   simp -implicitDefEqProofs only [go_sem, implies_true, w0]
   refine callN (l := [(0, .one (.ow 0 0)), (1000000, .one (.ow 0 0)), (5, vI dn.length), (24, .one (.cv (vs dn.length 1))), (25, vI ((kk + 1) : Nat))]) (bl := []) (el := [(0, ⟨true, 2, dn.map tmC ++ [.str (mtx kk), .pin (vs dn.length 1) (tmS s0)] :: pinRs vs (dn.length + 1) (rest.map tmC), 0, true⟩)]) 0 dn.length 1 (H (.mk n0 s0) (h5 _ (by simp)) (kk + 1) (by omega) (by show (kk + 1) + ctTms s0 ≤ _; omega)) (by simp -implicitDefEqProofs only [go_sem, w0, tmS]) rfl rfl rfl (by simp -implicitDefEqProofs only [go_sem, tmS, Tm.name, Tm.args]) rfl ?_
   simp -implicitDefEqProofs only [go_sem, w0, Tm.name, Tm.args]
   refine ⟨(dn ++ [.mk (mtx kk) (mkTms s0 (kk + 1)).1], rest, (mkTms s0 (kk + 1)).2), ⟨by simpa using h1, h2, by show 0 < (mkTms s0 (kk + 1)).2; omega, by show (mkTms s0 (kk + 1)).2 + ctTms rest ≤ _; omega, by simp; omega, fun b hb => h5 b (by simp [hb])⟩, by simp, weak_hd ?_⟩
   simp -implicitDefEqProofs only [go_sem, wl, tmC_eq (.mk _ _), Tm.name, Tm.args, List.map_append, List.append_assoc]
theorem markTermS_c (xs : List Tm) (k : Nat) (h0 : 0 < k) (hk : k + ctTms xs ≤ 4611686018427387904) : IC Tryz.prog 74 [] (.one (tmS xs)) [iD k] (.one (tmS (mkTms xs k).1)) [iD (mkTms xs k).2] :=
 markTermS_of xs (fun a _ => tm_ind (P := fun a => ∀ k : Nat, 0 < k → k + ctTms a.args ≤ 4611686018427387904 → IC Tryz.prog 74 [] (.one (tmS a.args)) [iD k] (.one (tmS (mkTms a.args k).1)) [iD (mkTms a.args k).2]) (fun n ys ih => markTermS_of ys ih) a) k h0 hk
mutual
def mk1Fms : Fm → Nat → Fm × Nat
 | .mk o0 (.mk n0 s0) v0 p0, k => (.mk ((k : Nat) : Int) (.mk (mtx (k + 1)) (mkTms s0 ((k + 1) + 1)).1) (mtx (mkTms s0 ((k + 1) + 1)).2) (mkFms p0 ((mkTms s0 ((k + 1) + 1)).2 + 1)).1, (mkFms p0 ((mkTms s0 ((k + 1) + 1)).2 + 1)).2)
def mkFms : List Fm → Nat → List Fm × Nat
 | [], k => ([], k)
 | a :: xs, k => ((mk1Fms a k).1 :: (mkFms xs (mk1Fms a k).2).1, (mkFms xs (mk1Fms a k).2).2)
end
mutual
def ct1Fms : Fm → Nat
 | .mk o0 (.mk n0 s0) v0 p0 => 1 + 1 + 1 + ctTms s0 + 1 + ctFms p0
def ctFms : List Fm → Nat
 | [] => 0
 | a :: xs => ct1Fms a + ctFms xs
end
mutual
theorem mk1Fms_ct : ∀ (a : Fm) (k : Nat), k ≤ (mk1Fms a k).2 ∧ (mk1Fms a k).2 ≤ k + ct1Fms a
 | .mk o0 (.mk n0 s0) v0 p0, k => by have h_s0 := mkTms_ct s0 ((k + 1) + 1); have h_p0 := mkFms_ct p0 ((mkTms s0 ((k + 1) + 1)).2 + 1); simp only [mk1Fms, ct1Fms]; omega
theorem mkFms_ct : ∀ (xs : List Fm) (k : Nat), k ≤ (mkFms xs k).2 ∧ (mkFms xs k).2 ≤ k + ctFms xs
 | [], k => ⟨Nat.le_refl _, Nat.le_refl _⟩
 | a :: xs, k => by have h1 := mk1Fms_ct a k; have h2 := mkFms_ct xs (mk1Fms a k).2; simp only [mkFms, ctFms]; omega
end
theorem ctFms_len : ∀ xs : List Fm, xs.length ≤ ctFms xs
  | [] => Nat.le_refl _
  | a :: xs => by have := ctFms_len xs; have : 1 ≤ ct1Fms a := by obtain ⟨o0, ⟨n0, s0⟩, v0, p0⟩ := a; simp only [ct1Fms]; omega
                  simp only [List.length_cons, ctFms]; omega
theorem markFormulaS_of (xs : List Fm) (H : ∀ a ∈ xs, ∀ k : Nat, 0 < k → k + ctFms a.parts ≤ 4611686018427387904 → IC Tryz.prog 73 [] (.one (fmS a.parts)) [iD k] (.one (fmS (mkFms a.parts k).1)) [iD (mkFms a.parts k).2]) :
  ∀ k : Nat, 0 < k → k + ctFms xs ≤ 4611686018427387904 → IC Tryz.prog 73 [] (.one (fmS xs)) [iD k] (.one (fmS (mkFms xs k).1)) [iD (mkFms xs k).2] := by
 intro k h0 hk
 refine IC_ofP Tryz.call73 Tryz.func73 rfl (by kernel_rfl) (by simp only [argsI, rd, List.map_cons, List.map_nil, List.nil_append, List.length_cons, List.length_nil, Tryz.ntmps73]; omega) (by simp only [Tryz.ntmps73]; omega) (fun vs => ?_)
 simp -implicitDefEqProofs only [go_sem, Tryz.results73, initP, initI, argsI, PI]
 refine loop_rule (fun (x : List Fm × List Fm × Nat) => hd [(0, .one (.ow 0 0)), (1000000, .one (.ow 0 0)), (1, vI x.2.2), (5, vI x.1.length)] [] [(0, ⟨true, 5, x.1.map fmC ++ pinRs vs x.1.length (x.2.1.map fmC), 0, true⟩)])
  (fun x => (mkFms xs k).1 = x.1 ++ (mkFms x.2.1 x.2.2).1 ∧ (mkFms xs k).2 = (mkFms x.2.1 x.2.2).2 ∧ 0 < x.2.2 ∧ x.2.2 + ctFms x.2.1 ≤ 4611686018427387904 ∧ x.1.length + x.2.1.length = xs.length ∧ ∀ a ∈ x.2.1, a ∈ xs) (fun x => x.2.1.length) ([], xs, k) (weak_hd ?_) ?_ ?_
 ·simp -implicitDefEqProofs only [go_sem]
 ·exact ⟨rfl, rfl, h0, hk, by simp, fun _ h => h⟩
 ·intro ⟨dn, rest, kk⟩ ⟨h1, h2, h3, h4, h6, h5⟩
  simp only at h1 h2 h3 h4 h5 h6
  cases rest with
  | nil =>
   simp only [mkFms, List.append_nil] at h1 h2
   simp -implicitDefEqProofs only [go_sem, h1, h2]
  | cons a rest =>
   obtain ⟨o0, ⟨n0, s0⟩, v0, p0⟩ := a
   simp only [mkFms, mk1Fms, ctFms, ct1Fms] at h1 h2 h4
   have hc_s0 := mkTms_ct s0 ((kk + 1) + 1)
   have hc_p0 := mkFms_ct p0 ((mkTms s0 ((kk + 1) + 1)).2 + 1)
   have w0 : IntKind.i64.wrap (((kk : Nat) : Int) + 1) = ((kk + 1 : Nat) : Int) := wrap_s (by omega)
   have w1 : IntKind.i64.wrap ((((kk + 1) : Nat) : Int) + 1) = (((kk + 1) + 1 : Nat) : Int) := wrap_s (by omega)
   have w2 : IntKind.i64.wrap ((((mkTms s0 ((kk + 1) + 1)).2 : Nat) : Int) + 1) = (((mkTms s0 ((kk + 1) + 1)).2 + 1 : Nat) : Int) := wrap_s (by omega)
   have hln := ctFms_len xs
   rw [List.length_cons] at h6
   have wl : IntKind.i64.wrap ((dn.length : Int) + 1) = ((dn.length + 1 : Nat) : Int) := wrap_s (by omega)
   simp -implicitDefEqProofs only [go_sem, fmC_eq (.mk _ _ _ _), Fm.op, Fm.atom, Fm.var, Fm.parts, Tm.name, Tm.args]
   refine storeD (by simp -implicitDefEqProofs only [go_sem, implies_true, w0, w1, w2]) ?_
   simp -implicitDefEqProofs only [go_sem, implies_true, w0, w1, w2]
   refine callF (markText_c (kk + 1) (by omega) (by omega)) (by simp -implicitDefEqProofs only [go_sem, w0, w1, w2]) ?_
   simp -implicitDefEqProofs only [go_sem, w0, w1, w2]
   refine storeD (by simp -implicitDefEqProofs only [go_sem, implies_true, w0, w1, w2]) ?_
   simp -implicitDefEqProofs only [go_sem, implies_true, w0, w1, w2]
   refine callN (l := [(0, .one (.ow 0 0)), (1000000, .one (.ow 0 0)), (5, vI dn.length), (33, .one (.cv (vs dn.length 2))), (34, vI (((kk + 1) + 1) : Nat))]) (bl := []) (el := [(0, ⟨true, 5, dn.map fmC ++ [.int .i64 ((kk : Nat) : Int), .str (mtx (kk + 1)), .pin (vs dn.length 2) (tmS s0), .str v0, .pin (vs dn.length 4) (fmS p0)] :: pinRs vs (dn.length + 1) (rest.map fmC), 0, true⟩)]) 0 dn.length 2 (markTermS_c s0 ((kk + 1) + 1) (by omega) (by omega)) (by simp -implicitDefEqProofs only [go_sem, w0, w1, w2, tmS]) rfl rfl rfl (by simp -implicitDefEqProofs only [go_sem, tmS, Fm.op, Fm.atom, Fm.var, Fm.parts, Tm.name, Tm.args]) rfl ?_
   simp -implicitDefEqProofs only [go_sem, w0, w1, w2, Fm.op, Fm.atom, Fm.var, Fm.parts, Tm.name, Tm.args]
   refine callF (markText_c (mkTms s0 ((kk + 1) + 1)).2 (by omega) (by omega)) (by simp -implicitDefEqProofs only [go_sem, w0, w1, w2]) ?_
   simp -implicitDefEqProofs only [go_sem, w0, w1, w2]
   refine storeD (by simp -implicitDefEqProofs only [go_sem, implies_true, w0, w1, w2]) ?_
   simp -implicitDefEqProofs only [go_sem, implies_true, w0, w1, w2]
   refine callN (l := [(0, .one (.ow 0 0)), (1000000, .one (.ow 0 0)), (5, vI dn.length), (48, .one (.cv (vs dn.length 4))), (49, vI (((mkTms s0 ((kk + 1) + 1)).2 + 1) : Nat))]) (bl := []) (el := [(0, ⟨true, 5, dn.map fmC ++ [.int .i64 ((kk : Nat) : Int), .str (mtx (kk + 1)), tmS (mkTms s0 ((kk + 1) + 1)).1, .str (mtx (mkTms s0 ((kk + 1) + 1)).2), .pin (vs dn.length 4) (fmS p0)] :: pinRs vs (dn.length + 1) (rest.map fmC), 0, true⟩)]) 0 dn.length 4 (H (.mk o0 (.mk n0 s0) v0 p0) (h5 _ (by simp)) ((mkTms s0 ((kk + 1) + 1)).2 + 1) (by omega) (by show ((mkTms s0 ((kk + 1) + 1)).2 + 1) + ctFms p0 ≤ _; omega)) (by simp -implicitDefEqProofs only [go_sem, w0, w1, w2, fmS]) rfl rfl rfl (by simp -implicitDefEqProofs only [go_sem, fmS, Fm.op, Fm.atom, Fm.var, Fm.parts, Tm.name, Tm.args]) rfl ?_
   simp -implicitDefEqProofs only [go_sem, w0, w1, w2, Fm.op, Fm.atom, Fm.var, Fm.parts, Tm.name, Tm.args]
   refine ⟨(dn ++ [.mk ((kk : Nat) : Int) (.mk (mtx (kk + 1)) (mkTms s0 ((kk + 1) + 1)).1) (mtx (mkTms s0 ((kk + 1) + 1)).2) (mkFms p0 ((mkTms s0 ((kk + 1) + 1)).2 + 1)).1], rest, (mkFms p0 ((mkTms s0 ((kk + 1) + 1)).2 + 1)).2), ⟨by simpa using h1, h2, by show 0 < (mkFms p0 ((mkTms s0 ((kk + 1) + 1)).2 + 1)).2; omega, by show (mkFms p0 ((mkTms s0 ((kk + 1) + 1)).2 + 1)).2 + ctFms rest ≤ _; omega, by simp; omega, fun b hb => h5 b (by simp [hb])⟩, by simp, weak_hd ?_⟩
   simp -implicitDefEqProofs only [go_sem, wl, fmC_eq (.mk _ _ _ _), Fm.op, Fm.atom, Fm.var, Fm.parts, Tm.name, Tm.args, List.map_append, List.append_assoc]
theorem markFormulaS_c (xs : List Fm) (k : Nat) (h0 : 0 < k) (hk : k + ctFms xs ≤ 4611686018427387904) : IC Tryz.prog 73 [] (.one (fmS xs)) [iD k] (.one (fmS (mkFms xs k).1)) [iD (mkFms xs k).2] :=
 markFormulaS_of xs (fun a _ => fm_ind (P := fun a => ∀ k : Nat, 0 < k → k + ctFms a.parts ≤ 4611686018427387904 → IC Tryz.prog 73 [] (.one (fmS a.parts)) [iD k] (.one (fmS (mkFms a.parts k).1)) [iD (mkFms a.parts k).2]) (fun o b v ps ih => markFormulaS_of ps ih) a) k h0 hk
def mkTTerm : Tm → Nat → Tm × Nat
 | .mk n0 s0, k => (.mk n0 (mkTms s0 k).1, (mkTms s0 k).2)
def ctTTerm : Tm → Nat
 | .mk n0 s0 => ctTms s0
theorem mkTTerm_ct : ∀ (a : Tm) (k : Nat), k ≤ (mkTTerm a k).2 ∧ (mkTTerm a k).2 ≤ k + ctTTerm a
 | .mk n0 s0, k => by have h0 := mkTms_ct s0 k; simp only [mkTTerm, ctTTerm]; omega
theorem markTerm_c (a : Tm) (k : Nat) (h0 : 0 < k) (hk : k + ctTTerm a ≤ 4611686018427387904) : IC Tryz.prog 72 [] (.agg (tmC a)) [iD k] (.agg (tmC (mkTTerm a k).1)) [iD (mkTTerm a k).2] := by
 obtain ⟨n0, s0⟩ := a
 simp only [ctTTerm] at hk
 have hc0 := mkTms_ct s0 k
 simp only [tmC_eq (.mk _ _), Tm.name, Tm.args, mkTTerm]
 refine IC_of Tryz.call72 Tryz.func72 rfl (by kernel_rfl) (by simp only [argsI, rd, List.map_cons, List.map_nil, List.nil_append, List.length_cons, List.length_nil, Tryz.ntmps72]; omega) (by simp only [Tryz.ntmps72]; omega) ⟨⟨by simp, by simp [T.isPin]⟩, smallG_rd _⟩ trivial ?_
 simp -implicitDefEqProofs only [go_sem, Tryz.results72, initI, argsI, PI]
 refine callId (l := [(1000000, .agg [.t (.str n0), .ow 1 0]), (2, .one (.bx 2 0)), (6, .one (.ow 1 0)), (7, vI (k : Nat))]) (bl := [(2, [.t (.str n0), .ow 1 0])]) (el := [(1, ⟨true, 2, (s0).map tmC, 0, true⟩)]) (markTermS_c s0 k (by omega) (by omega)) (by simp -implicitDefEqProofs only [go_sem, tmC_eq (.mk _ _), Tm.name, Tm.args, tmS]) rfl rfl rfl (by simp -implicitDefEqProofs only [go_sem, tmC_eq (.mk _ _), Tm.name, Tm.args, tmS]) rfl ?_
 simp -implicitDefEqProofs only [go_sem, tmC_eq (.mk _ _), Tm.name, Tm.args, tmS]
def mkTFormula : Fm → Nat → Fm × Nat
 | .mk o0 (.mk n0 s0) v0 p0, k => (.mk o0 (.mk n0 (mkTTerm (.mk n0 s0) k).1.args) v0 (mkFms p0 (mkTTerm (.mk n0 s0) k).2).1, (mkFms p0 (mkTTerm (.mk n0 s0) k).2).2)
def ctTFormula : Fm → Nat
 | .mk o0 (.mk n0 s0) v0 p0 => ctTTerm (.mk n0 s0) + ctFms p0
theorem markFormula_c (a : Fm) (k : Nat) (h0 : 0 < k) (hk : k + ctTFormula a ≤ 4611686018427387904) : IC Tryz.prog 21 [] (.agg (fmC a)) [iD k] (.agg (fmC (mkTFormula a k).1)) [iD (mkTFormula a k).2] := by
 obtain ⟨o0, ⟨n0, s0⟩, v0, p0⟩ := a
 simp only [ctTFormula] at hk
 have hc0 := mkTTerm_ct (.mk n0 s0) k
 have hc1 := mkFms_ct p0 (mkTTerm (.mk n0 s0) k).2
 simp only [fmC_eq (.mk _ _ _ _), tmC_eq (.mk _ _), Fm.op, Fm.atom, Fm.var, Fm.parts, Tm.name, Tm.args, mkTFormula, mkTTerm]
 refine IC_of Tryz.call21 Tryz.func21 rfl (by kernel_rfl) (by simp only [argsI, rd, List.map_cons, List.map_nil, List.nil_append, List.length_cons, List.length_nil, Tryz.ntmps21]; omega) (by simp only [Tryz.ntmps21]; omega) ⟨⟨by simp, by simp [T.isPin]⟩, smallG_rd _⟩ trivial ?_
 simp -implicitDefEqProofs only [go_sem, Tryz.results21, initI, argsI, PI]
 refine callId (l := [(1000000, .agg [.t (.int .i64 o0), .t (.str n0), .ow 2 0, .t (.str v0), .ow 4 0]), (2, .one (.bx 2 0)), (6, .agg [.t (.str n0), .ow 2 0]), (7, vI (k : Nat))]) (bl := [(2, [.t (.int .i64 o0), .t (.str n0), .ow 2 0, .t (.str v0), .ow 4 0])]) (el := [(2, ⟨true, 2, (s0).map tmC, 0, true⟩), (4, ⟨true, 5, (p0).map fmC, 0, true⟩)]) (markTerm_c (.mk n0 s0) k (by omega) (by omega)) (by simp -implicitDefEqProofs only [go_sem, fmC_eq (.mk _ _ _ _), tmC_eq (.mk _ _), Fm.op, Fm.atom, Fm.var, Fm.parts, Tm.name, Tm.args, mkTTerm, tmS]) rfl rfl rfl (by simp -implicitDefEqProofs only [go_sem, fmC_eq (.mk _ _ _ _), tmC_eq (.mk _ _), Fm.op, Fm.atom, Fm.var, Fm.parts, Tm.name, Tm.args, mkTTerm, tmS]) rfl ?_
 simp -implicitDefEqProofs only [go_sem, fmC_eq (.mk _ _ _ _), tmC_eq (.mk _ _), Fm.op, Fm.atom, Fm.var, Fm.parts, Tm.name, Tm.args, mkTTerm, tmS]
 refine callId (l := [(1000000, .agg [.t (.int .i64 o0), .t (.str n0), .ow 2 0, .t (.str v0), .ow 4 0]), (2, .one (.bx 2 0)), (10, .one (.ow 4 0)), (11, vI ((mkTTerm (.mk n0 s0) k).2 : Nat))]) (bl := [(2, [.t (.int .i64 o0), .t (.str n0), .ow 2 0, .t (.str v0), .ow 4 0])]) (el := [(2, ⟨true, 2, ((mkTms s0 k).1).map tmC, 0, true⟩), (4, ⟨true, 5, (p0).map fmC, 0, true⟩)]) (markFormulaS_c p0 (mkTTerm (.mk n0 s0) k).2 (by omega) (by omega)) (by simp -implicitDefEqProofs only [go_sem, fmC_eq (.mk _ _ _ _), tmC_eq (.mk _ _), Fm.op, Fm.atom, Fm.var, Fm.parts, Tm.name, Tm.args, mkTTerm, fmS]) rfl rfl rfl (by simp -implicitDefEqProofs only [go_sem, fmC_eq (.mk _ _ _ _), tmC_eq (.mk _ _), Fm.op, Fm.atom, Fm.var, Fm.parts, Tm.name, Tm.args, mkTTerm, fmS]) rfl ?_
 simp -implicitDefEqProofs only [go_sem, fmC_eq (.mk _ _ _ _), tmC_eq (.mk _ _), Fm.op, Fm.atom, Fm.var, Fm.parts, Tm.name, Tm.args, mkTTerm, fmS]
end Go.Proofs.YtbccfiillleimaaGreat
namespace Go.Proofs.YtbccfiillleimaaGreat
set_option linter.unusedSimpArgs false
set_option linter.unusedVariables false
set_option linter.unusedSectionVars false
set_option maxRecDepth 4000
open Go.RowKit
mutual
theorem ct1Tms_wt : ∀ a : Tm, ct1Tms a ≤ 2 + 2 * a.wt
 | .mk n s => by
  have := ctTms_wt s
  rw [Tm.wt_eq, ct1Tms]; unfold tmsW at this
  simp only [Tm.name, Tm.args]; omega
theorem ctTms_wt : ∀ xs : List Tm, ctTms xs ≤ 2 * tmsW xs
 | [] => by simp [ctTms]
 | a :: xs => by
  have h1 := ct1Tms_wt a
  have h2 := ctTms_wt xs
  unfold tmsW at h2 ⊢
  rw [ctTms, List.length_cons, List.map_cons, List.sum_cons]; omega
end
mutual
theorem ct1Fms_wt : ∀ a : Fm, ct1Fms a ≤ 4 + 4 * a.wt
 | .mk o (.mk n s) v p => by
  have h1 := ctTms_wt s
  have h2 := ctFms_wt p
  rw [Fm.wt_eq, ct1Fms]; unfold fmsW at h2; unfold tmsW at h1
  simp only [Fm.atom, Fm.var, Fm.parts]
  rw [Tm.wt_eq]
  simp only [Tm.name, Tm.args]; omega
theorem ctFms_wt : ∀ xs : List Fm, ctFms xs ≤ 4 * fmsW xs
 | [] => by simp [ctFms]
 | a :: xs => by
  have h1 := ct1Fms_wt a
  have h2 := ctFms_wt xs
  unfold fmsW at h2 ⊢
  rw [ctFms, List.length_cons, List.map_cons, List.sum_cons]; omega
end
end Go.Proofs.YtbccfiillleimaaGreat
namespace Go.Proofs.YtbccfiillleimaaGreat
set_option linter.unusedSimpArgs false
set_option linter.unusedVariables false
set_option linter.unusedSectionVars false
set_option maxRecDepth 4000
open Go.RowKit
theorem ifFormula_c (f : Fm) (hs : f.wt ≤ 1099511627776) : GC Tryz.prog 67 [(true, fmD f)] [fmD (if f.good = true then f else mkF 0 []), bD f.good] := by
 cases h : f.good
 ·rw [if_neg (by simp)]
  simp only [fmD, fmC_eq f, fmC_mkF, List.map_nil]
  refine GC_of Tryz.call67 Tryz.func67 rfl (by kernel_rfl) (by simp only [List.length_cons, List.length_nil, Tryz.ntmps67]; omega) (by simp [smallG, T.isPin]) ?_
  simp -implicitDefEqProofs only [go_sem, Tryz.results67]
  refine callF (isValidFormula_c f hs) (by simp -implicitDefEqProofs only [go_sem, fmC_eq f, h]) ?_
  simp -implicitDefEqProofs only [go_sem, fmC_eq f, h]
 ·rw [if_pos rfl]
  simp only [fmD, fmC_eq f]
  refine GC_of Tryz.call67 Tryz.func67 rfl (by kernel_rfl) (by simp only [List.length_cons, List.length_nil, Tryz.ntmps67]; omega) (by simp [smallG, T.isPin]) ?_
  simp -implicitDefEqProofs only [go_sem, Tryz.results67]
  refine callF (isValidFormula_c f hs) (by simp -implicitDefEqProofs only [go_sem, fmC_eq f, h]) ?_
  simp -implicitDefEqProofs only [go_sem, fmC_eq f, h]
end Go.Proofs.YtbccfiillleimaaGreat
namespace Go.Proofs.YtbccfiillleimaaGreat
set_option linter.unusedSimpArgs false
set_option linter.unusedVariables false
set_option linter.unusedSectionVars false
set_option maxRecDepth 4000
open Go.RowKit
theorem var_sym {n m : Str} (hn : varOk n = true) (hm : symOk m = true) : (n == m) = false := by
 rw [beq_eq_false_iff_ne]
 rintro rfl
 have h1 := (varOk_up hn).1
 have h2 := (symOk_low hm).1
 rw [h1] at h2
 cases h2
theorem cnt_voS (v : Str) (hv : varOk v = true) : ∀ a : Tm, a.names = true → (decide (0 < cntN v a) = (voS a).contains v) := tm_ind fun m xs ih h => by
 rw [Tm.names_eq] at h
 rw [cntN_eq, voS_eq]
 change (if varOk m = true then decide (xs.length = 0) else symOk m && decide (xs.length ≤ 4) && xs.all Tm.names) = true at h
 change decide (0 < (if (m == v) = true then 1 else 0) + (xs.map (cntN v)).sum) = (if varOk m = true then [m] else (xs.map voS).flatten).contains v
 rw [Bool.eq_iff_iff, decide_eq_true_eq, List.contains_iff_mem]
 by_cases hm : varOk m = true
 ·rw [if_pos hm] at h ⊢
  have hx : xs = [] := List.length_eq_zero_iff.1 (of_decide_eq_true h)
  subst hx
  simp only [List.map_nil, List.sum_nil, List.mem_singleton, beq_iff_eq]
  by_cases e : m = v
  ·simp [e]
  ·simp [e]; exact fun h => e h.symm
 ·rw [if_neg hm] at h ⊢
  simp only [Bool.and_eq_true] at h
  have hne := var_sym hv h.1.1
  have hmv : (m == v) = false := by rw [beq_eq_false_iff_ne] at hne ⊢; exact fun e => hne e.symm
  rw [hmv, if_neg (by simp), Nat.zero_add]
  have hI : ∀ x ∈ xs, (0 < cntN v x ↔ v ∈ voS x) := fun x hx => by
   have := ih x hx (List.all_eq_true.1 h.2 x hx)
   rwa [Bool.eq_iff_iff, decide_eq_true_eq, List.contains_iff_mem] at this
  clear ih h
  rw [List.mem_flatten]
  constructor
  ·intro hs
   have : ∃ x ∈ xs, 0 < cntN v x := by
    revert hs
    clear hI
    induction xs with
    | nil => simp
    | cons x xs ih2 =>
     intro hs
     simp only [List.map_cons, List.sum_cons] at hs
     by_cases h0 : 0 < cntN v x
     ·exact ⟨x, by simp, h0⟩
     ·obtain ⟨y, hy, h1⟩ := ih2 (by omega)
      exact ⟨y, by simp [hy], h1⟩
   obtain ⟨x, hx, h1⟩ := this
   exact ⟨voS x, List.mem_map.2 ⟨x, hx, rfl⟩, (hI x hx).1 h1⟩
  ·rintro ⟨l, hl, hv2⟩
   obtain ⟨x, hx, rfl⟩ := List.mem_map.1 hl
   have h1 := (hI x hx).2 hv2
   have h2 := mem_sum (cntN v) xs x hx
   omega
theorem vf_mem : ∀ (f : Fm) (b : List Str) (x : Str), x ∈ vf f b ↔ x ∈ vf f [] ∧ x ∉ b := fm_ind fun o a v ps ih b x => by
 rw [vf_eq (.mk o a v ps) b, vf_eq (.mk o a v ps) []]
 change x ∈ (if (o == 3) = true then (putSs [] (voS a)).filter (fun s => !b.contains s) else (ps.map fun y => vf y (if isQ o = true then b ++ [v] else b)).flatten) ↔ x ∈ (if (o == 3) = true then (putSs [] (voS a)).filter (fun s => !([] : List Str).contains s) else (ps.map fun y => vf y (if isQ o = true then [] ++ [v] else [])).flatten) ∧ x ∉ b
 split
 ·simp [List.mem_filter]
 ·have hI : ∀ y ∈ ps, ∀ c, x ∈ vf y c ↔ x ∈ vf y [] ∧ x ∉ c := fun y hy c => ih y hy c x
  simp only [List.mem_flatten, List.mem_map]
  constructor
  ·rintro ⟨l, ⟨y, hy, rfl⟩, hx⟩
   rw [hI y hy] at hx
   refine ⟨⟨_, ⟨y, hy, rfl⟩, ?_⟩, ?_⟩
   ·rw [hI y hy]
    refine ⟨hx.1, fun hm => hx.2 ?_⟩
    split at hm
    ·rw [if_pos ‹_›]; simp at hm; simp [hm]
    ·simp at hm
   ·intro hm
    apply hx.2
    split
    ·simp [hm]
    ·exact hm
  ·rintro ⟨⟨l, ⟨y, hy, rfl⟩, hx⟩, hb⟩
   rw [hI y hy] at hx
   refine ⟨_, ⟨y, hy, rfl⟩, ?_⟩
   rw [hI y hy]
   refine ⟨hx.1, fun hm => ?_⟩
   split at hm
   ·rw [if_pos ‹_›] at hx
    rcases List.mem_append.1 hm with hm | hm
    ·exact hb hm
    ·exact hx.2 (by simpa using hm)
   ·exact hb hm
theorem contains_put (l : List Str) (n : Str) : (putSs [] l).contains n = l.contains n := by
 rw [Bool.eq_iff_iff, List.contains_iff_mem, List.contains_iff_mem, putSs_mem]; simp
theorem free_part {f q : Fm} {n : Str} (hq : isQ f.op = true) (hp : f.parts = [q]) (hn : (f.var == n) = false) : (putSs [] (vf f [])).contains n = (frees f.parts).contains n := by
 have h3 : (f.op == 3) = false := by
  rw [beq_eq_false_iff_ne]; intro e; rw [e] at hq; exact absurd hq (by decide)
 rw [contains_put, hp]
 show _ = (putSs [] (vf q [])).contains n
 rw [contains_put, Bool.eq_iff_iff, List.contains_iff_mem, List.contains_iff_mem, vf_eq f [], h3, if_neg (by simp), if_pos hq, hp]
 simp only [List.map_cons, List.map_nil, List.flatten_cons, List.flatten_nil, List.append_nil, List.nil_append]
 rw [vf_mem]
 rw [beq_eq_false_iff_ne] at hn
 constructor
 ·exact fun h => h.1
 ·exact fun h => ⟨h, by simpa using fun e => hn e.symm⟩
theorem sub_put_t (n : Str) (t : Tm) (hn : varOk n = true) (ht : t.names = true) : ∀ a : Tm, a.names = true → subT n t a = putT (bnd n t) a := tm_ind fun m xs ih h => by
 rw [Tm.names_eq] at h
 rw [subT_eq, putT_eq]
 change (if varOk m = true then decide (xs.length = 0) else symOk m && decide (xs.length ≤ 4) && xs.all Tm.names) = true at h
 change (if xs.length = 0 then (if (n == m) = true then t else .mk m []) else .mk m (xs.map (subT n t))) = (if varOk m = true then (match (bnd n t).find? fun (p : Str × Tm) => p.1 == m with | some p => p.2 | none => .mk m []) else .mk m (xs.map (putT (bnd n t))))
 by_cases hm : varOk m = true
 ·rw [if_pos hm] at h ⊢
  rw [if_pos (of_decide_eq_true h)]
  unfold bnd
  cases htn : t.name == n
  ·cases hnm : n == m <;> simp only [hnm, if_true, if_false, Bool.false_eq_true, List.find?_cons, List.find?_nil]
  ·cases hnm : n == m
   ·simp only [if_true, if_false, Bool.false_eq_true, List.find?_nil]
   ·simp only [if_true, List.find?_nil]
    have e1 : t.name = m := by rw [beq_iff_eq] at htn hnm; rw [htn, hnm]
    rw [Tm.names_eq, e1, if_pos hm] at ht
    have e2 : t.args = [] := List.length_eq_zero_iff.1 (of_decide_eq_true ht)
    cases t with
    | mk tn ta => simp only [Tm.name, Tm.args] at e1 e2; rw [e1, e2]
 ·rw [if_neg hm] at h ⊢
  simp only [Bool.and_eq_true] at h
  have hne := var_sym hn h.1.1
  by_cases hx : xs.length = 0
  ·rw [if_pos hx, hne, if_neg (by simp)]
   have hx : xs = [] := List.length_eq_zero_iff.1 hx
   subst hx; rfl
  ·rw [if_neg hx]
   rw [List.map_congr_left fun x hx => ih x hx (List.all_eq_true.1 h.2 x hx)]
theorem sub_put_a (n : Str) (t : Tm) (hn : varOk n = true) (ht : t.names = true) (a : Tm) (h : a.atomOk = true) : subT n t a = putT (bnd n t) a := by
 unfold Tm.atomOk at h
 split at h
 ·rename_i he
  have he : a.name = [61] := by simpa using he
  simp only [Bool.and_eq_true, decide_eq_true_eq] at h
  rw [subT_eq, putT_eq, he, show varOk [61] = false by decide, if_neg (by omega), if_neg (by simp)]
  rw [List.map_congr_left fun x hx => sub_put_t n t hn ht x (List.all_eq_true.1 h.2 x hx)]
 ·simp only [Bool.and_eq_true] at h
  have := h.2
  unfold Tm.good at this
  rw [Bool.and_eq_true] at this
  exact sub_put_t n t hn ht a this.2
theorem noneT {a : Tm} (h : a.none = true) : a = .mk [] [] := by
 unfold Tm.none at h
 rw [Bool.and_eq_true, beq_iff_eq, decide_eq_true_eq, List.length_eq_zero_iff] at h
 cases a with
 | mk n xs => simp only [Tm.name, Tm.args] at h; rw [h.1, h.2]
theorem here_none {f : Fm} (h : f.here = true) (h3 : (f.op == 3) = false) : f.atom = .mk [] [] := by
 apply noneT
 unfold Fm.here at h
 rw [h3] at h
 simp only [Bool.false_eq_true, if_false] at h
 split at h
 ·simp only [Bool.and_eq_true] at h; exact h.1.2
 ·split at h
  ·simp only [Bool.and_eq_true] at h; exact h.1.2
  ·split at h
   ·simp only [Bool.and_eq_true] at h; exact h.1.2
   ·split at h
    ·simp only [Bool.and_eq_true] at h; exact h.1.2
    ·cases h
theorem here_same {f : Fm} {ps : List Fm} (h : f.here = true) (h3 : (f.op == 3) = false) (hl : ps.length = f.parts.length) : (Fm.mk f.op f.atom f.var ps).here = true := by
 have e : (Fm.mk f.op f.atom f.var ps).here = f.here := by
  unfold Fm.here
  show (if (f.op == 1 || f.op == 2) = true then decide (ps.length = 0) && f.atom.none && (f.var == []) else if (f.op == 3) = true then decide (ps.length = 0) && f.atom.atomOk && (f.var == []) else if (f.op == 4) = true then decide (ps.length = 1) && f.atom.none && (f.var == []) else if isBi f.op = true then decide (ps.length = 2) && f.atom.none && (f.var == []) else if isQ f.op = true then decide (ps.length = 1) && f.atom.none && varOk f.var else false) = _
  rw [hl]
 rw [e]; exact h
theorem here_q {f : Fm} (h1 : f.here = true) (h : isQ f.op = true) : varOk f.var = true := by
 unfold Fm.here at h1
 have h2 : (f.op == 1 || f.op == 2) = false ∧ (f.op == 3) = false ∧ (f.op == 4) = false ∧ isBi f.op = false := by
  have h8 : f.op = 8 ∨ f.op = 9 := by unfold isQ at h; rw [Bool.or_eq_true, beq_iff_eq, beq_iff_eq] at h; exact h
  rcases h8 with e | e <;> rw [e] <;> decide
 rw [h2.1, h2.2.1, h2.2.2.1, h2.2.2.2, h] at h1
 simp only [Bool.false_eq_true, if_false, if_true, Bool.and_eq_true] at h1
 exact h1.2
theorem forms_mk (o : Int) (a : Tm) (v : Str) (ps : List Fm) : (Fm.mk o a v ps).forms = ((Fm.mk o a v ps).here && ps.all Fm.forms) := Fm.forms_eq _
theorem sub_put (n : Str) (t : Tm) (hn : varOk n = true) (ht : t.names = true) : ∀ f : Fm, f.forms = true → (((subF n t f).2 = true ∧ (subF n t f).1.forms = true) ↔ ((putF n t f).2 = true ∧ (putF n t f).1.forms = true)) ∧ ((putF n t f).2 = true → (putF n t f).1.forms = true → (subF n t f).1 = (putF n t f).1) := fm_ind fun o a v ps ih hf => by
 have hS := subF_eq n t (.mk o a v ps)
 have hP := putF_eq n t (.mk o a v ps)
 have hf0 := hf
 rw [Fm.forms_eq, Bool.and_eq_true] at hf0
 obtain ⟨hh, hps⟩ := hf0
 have hps : ∀ x ∈ ps, x.forms = true := List.all_eq_true.1 hps
 have ihx : ∀ x ∈ ps, _ := fun x hx => ih x hx (hps x hx)
 cases h3 : o == 3
 ·have h3' : ((Fm.mk o a v ps).op == 3) = false := h3
  have ha : a = .mk [] [] := here_none hh h3'
  have hall : (∀ x ∈ ps, (subF n t x).2 = true ∧ (subF n t x).1.forms = true) ↔ (∀ x ∈ ps, (putF n t x).2 = true ∧ (putF n t x).1.forms = true) := forall_congr' fun x => forall_congr' fun hx => (ihx x hx).1
  have main : ((subF n t (.mk o a v ps)) = (.mk o a v (ps.map fun x => (subF n t x).1), ps.all fun x => (subF n t x).2)) → ((putF n t (.mk o a v ps)) = (.mk o a v ((ps.takeWhile fun x => (putF n t x).2).map fun x => (putF n t x).1), ps.all fun x => (putF n t x).2)) → _ := fun e1 e2 => by
   have l1 : ((subF n t (.mk o a v ps)).2 = true ∧ (subF n t (.mk o a v ps)).1.forms = true) ↔ (∀ x ∈ ps, (subF n t x).2 = true ∧ (subF n t x).1.forms = true) := by
    rw [e1]
    show ((ps.all fun x => (subF n t x).2) = true ∧ (Fm.mk o a v (ps.map fun x => (subF n t x).1)).forms = true) ↔ _
    rw [forms_mk, List.all_eq_true, Bool.and_eq_true, List.all_eq_true]
    have hhe : (Fm.mk o a v (ps.map fun x => (subF n t x).1)).here = true := here_same (f := .mk o a v ps) hh h3' (by show (ps.map _).length = ps.length; rw [List.length_map])
    constructor
    ·rintro ⟨h1, _, h2⟩ x hx; exact ⟨h1 x hx, h2 _ (List.mem_map.2 ⟨x, hx, rfl⟩)⟩
    ·intro h; refine ⟨fun x hx => (h x hx).1, hhe, fun y hy => ?_⟩
     obtain ⟨x, hx, rfl⟩ := List.mem_map.1 hy; exact (h x hx).2
   have l2 : ((putF n t (.mk o a v ps)).2 = true ∧ (putF n t (.mk o a v ps)).1.forms = true) ↔ (∀ x ∈ ps, (putF n t x).2 = true ∧ (putF n t x).1.forms = true) := by
    rw [e2]
    show ((ps.all fun x => (putF n t x).2) = true ∧ (Fm.mk o a v ((ps.takeWhile fun x => (putF n t x).2).map fun x => (putF n t x).1)).forms = true) ↔ _
    constructor
    ·rintro ⟨h1, h2⟩ x hx
     have hw : (ps.takeWhile fun x => (putF n t x).2) = ps := by
      have := (takeW_at (l := ps) (p := fun x => (putF n t x).2) (k := ps.length) (Nat.le_refl _) (by rw [List.take_length]; exact List.all_eq_true.1 h1) fun h => absurd h (Nat.lt_irrefl _)).1
      rw [this, List.take_length]
     rw [hw, forms_mk, Bool.and_eq_true, List.all_eq_true] at h2
     exact ⟨List.all_eq_true.1 h1 x hx, h2.2 _ (List.mem_map.2 ⟨x, hx, rfl⟩)⟩
    ·intro h
     have h1 : (ps.all fun x => (putF n t x).2) = true := List.all_eq_true.2 fun x hx => (h x hx).1
     have hw : (ps.takeWhile fun x => (putF n t x).2) = ps := by
      have := (takeW_at (l := ps) (p := fun x => (putF n t x).2) (k := ps.length) (Nat.le_refl _) (by rw [List.take_length]; exact List.all_eq_true.1 h1) fun h => absurd h (Nat.lt_irrefl _)).1
      rw [this, List.take_length]
     have hhe : (Fm.mk o a v (ps.map fun x => (putF n t x).1)).here = true := here_same (f := .mk o a v ps) hh h3' (by show (ps.map _).length = ps.length; rw [List.length_map])
     rw [hw, forms_mk, Bool.and_eq_true]
     refine ⟨h1, hhe, List.all_eq_true.2 fun y hy => ?_⟩
     obtain ⟨x, hx, rfl⟩ := List.mem_map.1 hy; exact (h x hx).2
   refine (⟨l1.trans (hall.trans l2.symm), fun p1 p2 => ?_⟩ : (((subF n t (.mk o a v ps)).2 = true ∧ (subF n t (.mk o a v ps)).1.forms = true) ↔ ((putF n t (.mk o a v ps)).2 = true ∧ (putF n t (.mk o a v ps)).1.forms = true)) ∧ ((putF n t (.mk o a v ps)).2 = true → (putF n t (.mk o a v ps)).1.forms = true → (subF n t (.mk o a v ps)).1 = (putF n t (.mk o a v ps)).1))
   have hA := l2.1 ⟨p1, p2⟩
   have h1 : (ps.all fun x => (putF n t x).2) = true := List.all_eq_true.2 fun x hx => (hA x hx).1
   have hw : (ps.takeWhile fun x => (putF n t x).2) = ps := by
    have := (takeW_at (l := ps) (p := fun x => (putF n t x).2) (k := ps.length) (Nat.le_refl _) (by rw [List.take_length]; exact List.all_eq_true.1 h1) fun h => absurd h (Nat.lt_irrefl _)).1
    rw [this, List.take_length]
   rw [e1, e2, hw]
   show Fm.mk o a v (ps.map fun x => (subF n t x).1) = Fm.mk o a v (ps.map fun x => (putF n t x).1)
   rw [List.map_congr_left fun x hx => (ihx x hx).2 (hA x hx).1 (hA x hx).2]
  cases hq : isQ o
  ·refine main ?_ ?_
   ·rw [hS]
    show (if (isQ o && _) = true then _ else if (isQ o && _) = true then _ else (Fm.mk o (if (o == 3) = true then subT n t a else a) v _, _)) = _
    rw [hq, h3]
    simp only [Bool.false_and, Bool.false_eq_true, if_false]
    rfl
   ·rw [hP]
    show (if (o == 3) = true then _ else if (isQ o && _) = true then _ else if (isQ o && _) = true then _ else (Fm.mk o (.mk [] []) v _, _)) = _
    rw [hq, h3]
    simp only [Bool.false_and, Bool.false_eq_true, if_false]
    rw [← ha]
    rfl
  ·obtain ⟨q, hp, hqf⟩ := q_parts (f := .mk o a v ps) hq hf
   cases hvn : v == n
   ·have hfp := free_part (f := .mk o a v ps) (n := n) hq hp hvn
    have hvok : varOk v = true := here_q (f := .mk o a v ps) hh hq
    have hoc := cnt_voS v hvok t ht
    have hc2 : (putSs [] (voS t)).contains v = (voS t).contains v := contains_put _ _
    have hS2 : subF n t (.mk o a v ps) = if (!(frees ps).contains n) = true then (.mk o a v ps, true) else if (voS t).contains v = true then (mkF 0 [], false) else (.mk o a v (ps.map fun x => (subF n t x).1), ps.all fun x => (subF n t x).2) := by
     rw [hS]
     show (if (isQ o && (v == n || !((putSs [] (vf (.mk o a v ps) [])).contains n))) = true then _ else if (isQ o && decide (0 < cntN v t)) = true then _ else (Fm.mk o (if (o == 3) = true then subT n t a else a) v _, _)) = _
     rw [hfp, hq, hvn, h3, hoc]
     simp only [Bool.true_and, Bool.false_or, Bool.false_eq_true, if_false]
     rfl
    have hP2 : putF n t (.mk o a v ps) = if (!(frees ps).contains n) = true then (.mk o a v ps, true) else if (voS t).contains v = true then (.mk o (.mk [] []) v [], false) else (.mk o a v ((ps.takeWhile fun x => (putF n t x).2).map fun x => (putF n t x).1), ps.all fun x => (putF n t x).2) := by
     rw [hP]
     show (if (o == 3) = true then _ else if (isQ o && (v == n || !((frees ps).contains n))) = true then _ else if (isQ o && (putSs [] (voS t)).contains v) = true then _ else (Fm.mk o (.mk [] []) v _, _)) = _
     rw [hq, hvn, h3, hc2]
     simp only [Bool.true_and, Bool.false_or, Bool.false_eq_true, if_false]
     rw [← ha]
     rfl
    cases hfc : (!(frees ps).contains n)
    ·rw [hfc] at hS2 hP2
     simp only [Bool.false_eq_true, if_false] at hS2 hP2
     cases hvc : (voS t).contains v
     ·rw [hvc] at hS2 hP2
      simp only [Bool.false_eq_true, if_false] at hS2 hP2
      exact main hS2 hP2
     ·rw [hvc] at hS2 hP2
      simp only [if_true] at hS2 hP2
      rw [hS2, hP2]
      exact ⟨⟨fun h => (by cases h.1), fun h => (by cases h.1)⟩, fun h => (by cases h)⟩
    ·rw [hfc] at hS2 hP2
     simp only [if_true] at hS2 hP2
     rw [hS2, hP2]
     exact ⟨Iff.rfl, fun _ _ => rfl⟩
   ·have hS2 : subF n t (.mk o a v ps) = (.mk o a v ps, true) := by
     rw [hS]
     show (if (isQ o && (v == n || _)) = true then _ else _) = _
     rw [hq, hvn]
     simp only [Bool.true_and, Bool.true_or, if_true]
    have hP2 : putF n t (.mk o a v ps) = (.mk o a v ps, true) := by
     rw [hP]
     show (if (o == 3) = true then _ else if (isQ o && (v == n || _)) = true then _ else _) = _
     rw [hq, hvn, h3]
     simp only [Bool.true_and, Bool.true_or, if_true, Bool.false_eq_true, if_false]
    rw [hS2, hP2]
    exact ⟨Iff.rfl, fun _ _ => rfl⟩
 ·have ho3 : o = 3 := by simpa using h3
  obtain ⟨hat, hp⟩ := here_atom (f := .mk o a v ps) hh ho3
  have hp : ps = [] := hp
  have hat : a.atomOk = true := hat
  have hq : isQ o = false := by rw [ho3]; decide
  have hS2 : subF n t (.mk o a v ps) = (.mk o (putT (bnd n t) a) v [], true) := by
   rw [hS]
   show (if (isQ o && _) = true then _ else if (isQ o && _) = true then _ else (Fm.mk o (if (o == 3) = true then subT n t a else a) v (ps.map _), ps.all _)) = _
   rw [hq, h3, hp]
   simp only [Bool.false_and, Bool.false_eq_true, if_false, if_true, List.map_nil, List.all_nil]
   rw [sub_put_a n t hn ht a hat]
  have hP2 : putF n t (.mk o a v ps) = (.mk o (putT (bnd n t) a) v [], (putT (bnd n t) a).atomOk) := by
   rw [hP]
   show (if (o == 3) = true then _ else _) = _
   rw [h3]
   rfl
  rw [hS2, hP2]
  refine ⟨⟨fun h => ⟨?_, h.2⟩, fun h => ⟨rfl, h.2⟩⟩, fun _ _ => rfl⟩
  have := h.2
  rw [forms_mk, Bool.and_eq_true] at this
  exact (here_atom (f := .mk o (putT (bnd n t) a) v []) this.1 ho3).1
theorem gforms' {f : Fm} (h : f.good = true) : f.forms = true := (Bool.and_eq_true _ _ ▸ h : _ ∧ _).2
noncomputable def sbF (n : Str) (t : Tm) (f : Fm) : Fm × Bool := if (f.good && varOk n && t.good && (subF n t f).2 && (subF n t f).1.good) = true then ((subF n t f).1, true) else (mkF 0 [], false)
theorem sub_good (n : Str) (t : Tm) (hn : varOk n = true) (ht : t.names = true) (f : Fm) (hf : f.forms = true) : ((subF n t f).2 && (subF n t f).1.good) = ((putF n t f).2 && (putF n t f).1.good) := by
 obtain ⟨h1, h2⟩ := sub_put n t hn ht f hf
 rw [Bool.eq_iff_iff, Bool.and_eq_true, Bool.and_eq_true]
 unfold Fm.good
 rw [Bool.and_eq_true, Bool.and_eq_true]
 constructor
 ·rintro ⟨a, b, c⟩
  obtain ⟨p, q⟩ := h1.1 ⟨a, c⟩
  exact ⟨p, by rw [← h2 p q]; exact b, q⟩
 ·rintro ⟨a, b, c⟩
  obtain ⟨p, q⟩ := h1.2 ⟨a, c⟩
  exact ⟨p, by rw [h2 a c]; exact b, q⟩
theorem SubstituteFormula_c (f : Fm) (n : Str) (t : Tm) (hw : f.wt ≤ 1048576) (ht : t.wt ≤ 1048576) (hb : f.wt + (1 + f.wt) * t.wt ≤ 1099511627776) : FC Tryz.prog 168 [fmD f, sD n, tmD t] [fmD (sbF n t f).1, bD (sbF n t f).2] := by
 have hv : sbF n t f = if (f.good && varOk n && t.good && (subF n t f).2 && (subF n t f).1.good) = true then ((subF n t f).1, true) else (mkF 0 [], false) := rfl
 have HF := isValidFormula_c f (by omega)
 have HN := isVariable_c n
 have HT := isValidTerm_c t (by omega)
 cases hg : f.good
 ·rw [hg] at hv HF
  simp only [Bool.false_and, Bool.false_eq_true, if_false] at hv
  rw [hv]
  simp only [fmD, fmC_eq f, tmD, tmC_eq t, fmC_mkF, List.map_nil] at HF ⊢
  refine FC_of Tryz.call168 Tryz.func168 rfl (by kernel_rfl) (by simp only [rd, List.map_cons, List.map_nil, List.length_cons, List.length_nil, Tryz.ntmps168]; omega) ?_
  simp -implicitDefEqProofs only [go_sem, Tryz.results168]
  refine callF (HF) (by simp -implicitDefEqProofs only [go_sem]) ?_
  simp -implicitDefEqProofs only [go_sem]
 ·cases hn : varOk n
  ·rw [hg, hn] at hv
   rw [hg] at HF
   rw [hn] at HN
   simp only [Bool.false_and, Bool.true_and, Bool.false_eq_true, if_false] at hv
   rw [hv]
   simp only [fmD, fmC_eq f, tmD, tmC_eq t, fmC_mkF, List.map_nil] at HF ⊢
   refine FC_of Tryz.call168 Tryz.func168 rfl (by kernel_rfl) (by simp only [rd, List.map_cons, List.map_nil, List.length_cons, List.length_nil, Tryz.ntmps168]; omega) ?_
   simp -implicitDefEqProofs only [go_sem, Tryz.results168]
   refine callF (HF) (by simp -implicitDefEqProofs only [go_sem]) ?_
   simp -implicitDefEqProofs only [go_sem]
   refine callF (HN) (by simp -implicitDefEqProofs only [go_sem]) ?_
   simp -implicitDefEqProofs only [go_sem]
  ·cases htg : t.good
   ·rw [hg, hn, htg] at hv
    rw [hg] at HF
    rw [hn] at HN
    rw [htg] at HT
    simp only [Bool.false_and, Bool.true_and, Bool.false_eq_true, if_false] at hv
    rw [hv]
    simp only [fmD, fmC_eq f, tmD, tmC_eq t, fmC_mkF, List.map_nil] at HF HT ⊢
    refine FC_of Tryz.call168 Tryz.func168 rfl (by kernel_rfl) (by simp only [rd, List.map_cons, List.map_nil, List.length_cons, List.length_nil, Tryz.ntmps168]; omega) ?_
    simp -implicitDefEqProofs only [go_sem, Tryz.results168]
    refine callF (HF) (by simp -implicitDefEqProofs only [go_sem]) ?_
    simp -implicitDefEqProofs only [go_sem]
    refine callF (HN) (by simp -implicitDefEqProofs only [go_sem]) ?_
    simp -implicitDefEqProofs only [go_sem]
    refine callF (HT) (by simp -implicitDefEqProofs only [go_sem]) ?_
    simp -implicitDefEqProofs only [go_sem]
   ·rw [hg, hn, htg] at hv
    rw [hg] at HF
    rw [hn] at HN
    rw [htg] at HT
    have HS := substituted_c n t ht f (gforms' hg) hw
    have hwt := subF_wt n t f
    generalize (subF n t f).1 = R at HS hv hwt
    simp only [Bool.true_and] at hv
    cases hok : (subF n t f).2
    ·rw [hok] at hv HS
     simp only [Bool.false_and, Bool.false_eq_true, if_false] at hv
     rw [hv]
     simp only [fmD, fmC_eq f, tmD, tmC_eq t, fmC_eq R, fmC_mkF, List.map_nil] at HF HT HS ⊢
     refine FC_of Tryz.call168 Tryz.func168 rfl (by kernel_rfl) (by simp only [rd, List.map_cons, List.map_nil, List.length_cons, List.length_nil, Tryz.ntmps168]; omega) ?_
     simp -implicitDefEqProofs only [go_sem, Tryz.results168]
     refine callF (HF) (by simp -implicitDefEqProofs only [go_sem]) ?_
     simp -implicitDefEqProofs only [go_sem]
     refine callF (HN) (by simp -implicitDefEqProofs only [go_sem]) ?_
     simp -implicitDefEqProofs only [go_sem]
     refine callF (HT) (by simp -implicitDefEqProofs only [go_sem]) ?_
     simp -implicitDefEqProofs only [go_sem]
     refine callF (HS) (by simp -implicitDefEqProofs only [go_sem]) ?_
     simp -implicitDefEqProofs only [go_sem]
    ·rw [hok] at hv HS
     have HI := ifFormula_c R (by omega)
     simp only [Bool.true_and] at hv
     have hv2 : sbF n t f = ((if R.good = true then R else mkF 0 []), R.good) := by rw [hv]; cases R.good <;> rfl
     rw [hv2]
     generalize (if R.good = true then R else mkF 0 []) = Z at HI ⊢
     generalize R.good = G at HI ⊢
     simp only [fmD, fmC_eq f, tmD, tmC_eq t, fmC_eq R, fmC_eq Z] at HF HT HS HI ⊢
     refine FC_of Tryz.call168 Tryz.func168 rfl (by kernel_rfl) (by simp only [rd, List.map_cons, List.map_nil, List.length_cons, List.length_nil, Tryz.ntmps168]; omega) ?_
     simp -implicitDefEqProofs only [go_sem, Tryz.results168]
     refine callF (HF) (by simp -implicitDefEqProofs only [go_sem]) ?_
     simp -implicitDefEqProofs only [go_sem]
     refine callF (HN) (by simp -implicitDefEqProofs only [go_sem]) ?_
     simp -implicitDefEqProofs only [go_sem]
     refine callF (HT) (by simp -implicitDefEqProofs only [go_sem]) ?_
     simp -implicitDefEqProofs only [go_sem]
     refine callF (HS) (by simp -implicitDefEqProofs only [go_sem]) ?_
     simp -implicitDefEqProofs only [go_sem]
     refine callGL [6] [34] [] (HI) (by simp -implicitDefEqProofs only [go_sem]) (by simp -implicitDefEqProofs only [go_sem]) (by simp -implicitDefEqProofs only [go_sem]) (by simp -implicitDefEqProofs only [go_sem]) ?_
     simp -implicitDefEqProofs only [go_sem]
end Go.Proofs.YtbccfiillleimaaGreat
namespace Go.Proofs.YtbccfiillleimaaGreat
set_option linter.unusedSimpArgs false
set_option linter.unusedVariables false
set_option linter.unusedSectionVars false
set_option maxRecDepth 4000
open Go.RowKit
theorem eparts_wt {a x : Ex} (h : x ∈ a.parts) : x.wt ≤ a.wt := by
 have := a.wt_eq
 have := mem_sum Ex.wt a.parts x h
 omega
theorem form_wt (a : Ex) : a.form.wt ≤ a.wt := by have := a.wt_eq; omega
def Ex.nodes : Ex → Nat := Ex.fold fun _ _ _ rs => 1 + rs.sum
theorem Ex.nodes_eq (a : Ex) : a.nodes = 1 + (a.parts.map Ex.nodes).sum := Ex.fold_eq _ a
theorem enodes_wt : ∀ a : Ex, a.nodes ≤ 1 + a.wt := by
 refine ex_ind fun f t xs ih => ?_
 rw [Ex.nodes_eq, Ex.wt_eq]
 show 1 + (xs.map Ex.nodes).sum ≤ 1 + (f.wt + tmsW t + (xs.length + (xs.map Ex.wt).sum))
 have : (xs.map Ex.nodes).sum ≤ xs.length + (xs.map Ex.wt).sum := by
  induction xs with
  | nil => simp
  | cons x xs ih2 =>
   have h1 := ih x (by simp)
   have h2 := ih2 fun y hy => ih y (by simp [hy])
   simp only [List.map_cons, List.sum_cons, List.length_cons]
   omega
 omega
def sizeE : Ex → Int := Ex.fold fun _ _ _ rs => szL 60 1 rs
theorem sizeE_eq (a : Ex) : sizeE a = szL 60 1 (a.parts.map sizeE) := Ex.fold_eq _ a
theorem sizeE_spec : ∀ a : Ex, 1 ≤ sizeE a ∧ sizeE a ≤ a.nodes ∧ (sizeE a ≤ 60 → sizeE a = a.nodes) := by
 refine ex_ind fun f t xs ih => ?_
 rw [sizeE_eq, Ex.nodes_eq]
 show 1 ≤ szL 60 1 (xs.map sizeE) ∧ szL 60 1 (xs.map sizeE) ≤ ((1 + (xs.map Ex.nodes).sum : Nat) : Int) ∧ _
 obtain ⟨k1, k2, k3⟩ := szL_spec sizeE Ex.nodes 60 xs 1 (by omega) ih
 refine ⟨k2, by omega, fun h => ?_⟩
 have := k3 h
 show szL 60 1 (xs.map sizeE) = _
 rw [this]; show _ = ((1 + (xs.map Ex.nodes).sum : Nat) : Int); omega
theorem sizeE_le (a : Ex) : decide (sizeE a ≤ 60) = decide (a.nodes ≤ 60) := by
 obtain ⟨h1, h2, h3⟩ := sizeE_spec a
 rw [decide_eq_decide]
 exact ⟨fun h => by have := h3 h; omega, fun h => by omega⟩
set_option maxHeartbeats 400000 in
theorem nodesOf_of (a : Ex) (hs : a.wt ≤ 1099511627776) (H : ∀ x ∈ a.parts, FC Tryz.prog 145 [exD x] [iD (sizeE x)]) : FC Tryz.prog 145 [exD a] [iD (sizeE a)] := by
 have hl : a.parts.length ≤ 9223372036854775807 := by rw [Ex.wt_eq] at hs; omega
 have hn := enodes_wt a
 have hN := a.nodes_eq
 simp only [exD, exC_eq]
 refine FC_of Tryz.call145 Tryz.func145 rfl (by kernel_rfl) (by simp only [rd, List.map_cons, List.map_nil, List.length_cons, List.length_nil, Tryz.ntmps145]; omega) ?_
 simp -implicitDefEqProofs only [go_sem, Tryz.results145]
 refine loop_rule (fun p : Nat × Int => hd [(3, vI p.2), (7, vT (exS a.parts)), (8, vI a.parts.length), (9, vI p.1)] [] []) (fun p => p.1 ≤ a.parts.length ∧ sizeE a = szL 60 p.2 ((a.parts.drop p.1).map sizeE) ∧ 1 ≤ p.2 ∧ p.2 + dsum Ex.nodes a.parts p.1 ≤ a.nodes) (fun p => a.parts.length - p.1) (0, 1) (weak_hd ?_) ?_ ?_
 ·simp -implicitDefEqProofs only [go_sem]
 ·exact ⟨by simp, by rw [sizeE_eq]; rfl, by omega, by rw [dsum_zero]; omega⟩
 ·intro ⟨k, n⟩ ⟨hk, hr, h1, h2⟩
  simp only at hk hr h1 h2
  by_cases hlt : k < a.parts.length
  ·have hd := dsum_at Ex.nodes a.parts k hlt
   obtain ⟨s1, s2, s3⟩ := sizeE_spec a.parts[k]
   rw [List.drop_eq_getElem_cons hlt, List.map_cons, szL] at hr
   simp -implicitDefEqProofs only [go_sem, getD_at, hlt, exC_eq]
   refine ⟨fun h => ?_, fun h => ?_⟩
   ·rw [hr, if_pos (by simpa using h)]
   ·refine callF (H a.parts[k] (List.getElem_mem hlt)) (by simp -implicitDefEqProofs only [go_sem, exC_eq]) ?_
    simp -implicitDefEqProofs only [go_sem, exC_eq]
    rw [if_neg (by simpa using h)] at hr
    exact ⟨(k + 1, n + sizeE a.parts[k]), ⟨hlt, hr, by simp only; omega, by simp only; omega⟩, by simp only; omega, weak_hd (by simp -implicitDefEqProofs only [go_sem]; rw [wrap_s (by omega), wrap_in (by omega) (by omega)]; exact ⟨rfl, rfl⟩)⟩
  ·simp -implicitDefEqProofs only [go_sem, hlt]
   rw [hr, List.drop_of_length_le (by omega)]; rfl
theorem nodesOf_c : ∀ a : Ex, a.wt ≤ 1099511627776 → FC Tryz.prog 145 [exD a] [iD (sizeE a)] :=
 ex_ind fun f t xs ih hs => nodesOf_of (.mk f t xs) hs fun x hx => ih x hx (Nat.le_trans (eparts_wt (a := .mk f t xs) hx) hs)
def manyE : Ex → Int → Int := Ex.fold fun _ _ _ rs m => mnL m 1 rs
theorem manyE_eq (a : Ex) (m : Int) : manyE a m = mnL m 1 (a.parts.map manyE) := congrFun (Ex.fold_eq _ a) m
theorem manyE_spec : ∀ (a : Ex) (m : Int), 0 ≤ m → 1 ≤ manyE a m ∧ manyE a m ≤ a.nodes ∧ (manyE a m ≤ m → manyE a m = a.nodes) := by
 refine ex_ind fun b0 b1 xs ih m hm => ?_
 rw [manyE_eq, Ex.nodes_eq]
 show 1 ≤ mnL m 1 (xs.map manyE) ∧ mnL m 1 (xs.map manyE) ≤ ((1 + (xs.map Ex.nodes).sum : Nat) : Int) ∧ (mnL m 1 (xs.map manyE) ≤ m → mnL m 1 (xs.map manyE) = ((1 + (xs.map Ex.nodes).sum : Nat) : Int))
 obtain ⟨k1, k2, k3⟩ := mnL_spec manyE Ex.nodes m xs 1 (by omega) ih
 refine ⟨k2, by omega, fun h => ?_⟩
 have := k3 h
 omega
theorem manyE_le (a : Ex) (m : Nat) : decide (manyE a m ≤ m) = decide (a.nodes ≤ m) := by
 obtain ⟨h1, h2, h3⟩ := manyE_spec a m (by omega)
 rw [decide_eq_decide]
 exact ⟨fun h => by have := h3 h; omega, fun h => by omega⟩
set_option maxHeartbeats 400000 in
theorem l17Size_of (a : Ex) (hs : a.wt ≤ 1099511627776) (H : ∀ x ∈ a.parts, ∀ m : Int, 0 ≤ m → m ≤ 1099511627776 → FC Tryz.prog 136 [exD x, iD m] [iD (manyE x m)]) (m : Int) (h0 : 0 ≤ m) (h1 : m ≤ 1099511627776) : FC Tryz.prog 136 [exD a, iD m] [iD (manyE a m)] := by
 have hl : a.parts.length ≤ 9223372036854775807 := by rw [Ex.wt_eq] at hs; omega
 have hn := enodes_wt a
 have hN := a.nodes_eq
 simp only [exD, exC_eq]
 refine FC_of Tryz.call136 Tryz.func136 rfl (by kernel_rfl) (by simp only [rd, List.map_cons, List.map_nil, List.length_cons, List.length_nil, Tryz.ntmps136]; omega) ?_
 simp -implicitDefEqProofs only [go_sem, Tryz.results136]
 refine loop_rule (fun p : Nat × Int => hd [(1, vI m), (2, .one (.bx 2 0)), (5, vI p.2), (6, vI p.1)] [(2, [.t (.int .i64 a.form.op), .t (.str a.form.atom.name), .t (tmS a.form.atom.args), .t (.str a.form.var), .t (fmS a.form.parts), .t (tmS a.terms), .t (exS a.parts)])] []) (fun p => p.1 ≤ a.parts.length ∧ manyE a m = mnL m p.2 ((a.parts.drop p.1).map manyE) ∧ 1 ≤ p.2 ∧ p.2 + dsum Ex.nodes a.parts p.1 ≤ a.nodes) (fun p => a.parts.length - p.1) (0, 1) (weak_hd ?_) ?_ ?_
 ·simp -implicitDefEqProofs only [go_sem]
 ·exact ⟨by simp, by rw [manyE_eq]; rfl, by omega, by rw [dsum_zero]; omega⟩
 ·intro ⟨k, n⟩ ⟨hk, hr, h2, h3⟩
  simp only at hk hr h2 h3
  by_cases hlt : k < a.parts.length
  ·have hd := dsum_at Ex.nodes a.parts k hlt
   rw [List.drop_eq_getElem_cons hlt, List.map_cons, mnL] at hr
   simp -implicitDefEqProofs only [go_sem, getD_at, hlt, exC_eq]
   refine ⟨fun h => ?_, fun h => ?_⟩
   ·have hle : n ≤ m := by simpa using h
    obtain ⟨s1, s2, s3⟩ := manyE_spec a.parts[k] (m - n) (by omega)
    rw [wrap_in (n := m - n) (by omega) (by omega)]
    refine callF (H a.parts[k] (List.getElem_mem hlt) (m - n) (by omega) (by omega)) (by simp -implicitDefEqProofs only [go_sem, exC_eq]) ?_
    simp -implicitDefEqProofs only [go_sem, exC_eq]
    rw [if_pos hle] at hr
    exact ⟨(k + 1, n + manyE a.parts[k] (m - n)), ⟨hlt, hr, by simp only; omega, by simp only; omega⟩, by simp only; omega, weak_hd (by simp -implicitDefEqProofs only [go_sem]; rw [wrap_s (by omega), wrap_in (by omega) (by omega)]; exact ⟨rfl, rfl⟩)⟩
   ·rw [hr, if_neg (by simpa using h)]
  ·simp -implicitDefEqProofs only [go_sem, hlt]
   rw [hr, List.drop_of_length_le (by omega)]; rfl
theorem l17Size_c : ∀ a : Ex, a.wt ≤ 1099511627776 → ∀ m : Int, 0 ≤ m → m ≤ 1099511627776 → FC Tryz.prog 136 [exD a, iD m] [iD (manyE a m)] :=
 ex_ind fun b0 b1 xs ih hs => l17Size_of (.mk b0 b1 xs) hs fun x hx => ih x hx (Nat.le_trans (eparts_wt (a := .mk b0 b1 xs) hx) hs)
theorem polarity_c (f : Fm) (i : Int) (b : Bool) : FC Tryz.prog 150 [fmD f, iD i, bD b] [bD (b != (f.op == 4 || (f.op == 7 && i == 0)))] := by
 simp only [fmD, fmC_eq]
 refine FC_of Tryz.call150 Tryz.func150 rfl (by kernel_rfl) (by simp only [rd, List.map_cons, List.map_nil, List.length_cons, List.length_nil, Tryz.ntmps150]; omega) ?_
 simp -implicitDefEqProofs only [go_sem, Tryz.results150]
 generalize (f.op == 4) = x
 generalize (f.op == 7) = y
 generalize (i == 0) = z
 cases x <;> cases y <;> cases z <;> cases b <;> simp
theorem isStrong_c (f : Fm) (b : Bool) : FC Tryz.prog 153 [fmD f, bD b] [bD ((f.op == 8) == b)] := by
 simp only [fmD, fmC_eq]
 refine FC_of Tryz.call153 Tryz.func153 rfl (by kernel_rfl) (by simp only [rd, List.map_cons, List.map_nil, List.length_cons, List.length_nil, Tryz.ntmps153]; omega) ?_
 simp -implicitDefEqProofs only [go_sem, Tryz.results153]
theorem l17Sign_c (f : Fm) (i : Int) (b : Bool) : FC Tryz.prog 139 [fmD f, iD i, bD b] [bD (b != (f.op == 4 || (f.op == 7 && i == 0)))] := by
 simp only [fmD, fmC_eq]
 refine FC_of Tryz.call139 Tryz.func139 rfl (by kernel_rfl) (by simp only [rd, List.map_cons, List.map_nil, List.length_cons, List.length_nil, Tryz.ntmps139]; omega) ?_
 simp -implicitDefEqProofs only [go_sem, Tryz.results139]
 generalize (f.op == 4) = x
 generalize (f.op == 7) = y
 generalize (i == 0) = z
 cases x <;> cases y <;> cases z <;> cases b <;> simp
theorem l17Quantifier_c (f : Fm) : FC Tryz.prog 141 [fmD f] [bD (isQ f.op)] := by
 simp only [fmD, fmC_eq]
 refine FC_of Tryz.call141 Tryz.func141 rfl (by kernel_rfl) (by simp only [rd, List.map_cons, List.map_nil, List.length_cons, List.length_nil, Tryz.ntmps141]; omega) ?_
 simp -implicitDefEqProofs only [go_sem, Tryz.results141]
 unfold isQ
 generalize (f.op == 8) = x
 generalize (f.op == 9) = y
 cases x <;> cases y <;> simp
theorem l17Strong_c (f : Fm) (b : Bool) : FC Tryz.prog 142 [fmD f, bD b] [bD (isQ f.op && ((f.op == 8) == b))] := by
 simp only [fmD, fmC_eq]
 have h89 : (f.op == 8) = true → (f.op == 9) = false := fun h => by
  rw [beq_iff_eq] at h
  rw [h]; decide
 refine FC_of Tryz.call142 Tryz.func142 rfl (by kernel_rfl) (by simp only [rd, List.map_cons, List.map_nil, List.length_cons, List.length_nil, Tryz.ntmps142]; omega) ?_
 simp -implicitDefEqProofs only [go_sem, Tryz.results142]
 unfold isQ
 revert h89
 generalize (f.op == 8) = x
 generalize (f.op == 9) = y
 cases x <;> cases y <;> cases b <;> simp
theorem indexAtom1_c (a t : Tm) : FC Tryz.prog 207 [tmD a, .one (.ptr (tmC t))] [bD (same a t)] := by
 have H := equalTerms_c a t
 simp only [tmD, tmC_eq] at H ⊢
 refine FC_of Tryz.call207 Tryz.func207 rfl (by kernel_rfl) (by simp only [rd, List.map_cons, List.map_nil, List.length_cons, List.length_nil, Tryz.ntmps207]; omega) ?_
 simp -implicitDefEqProofs only [go_sem, Tryz.results207]
 refine callF (H) (by simp -implicitDefEqProofs only [go_sem]) ?_
 simp -implicitDefEqProofs only [go_sem]
theorem indexOfAtom_c (xs : List Tm) (t : Tm) : FC Tryz.prog 167 [.one (tmS xs), tmD t] [iD (idxP xs fun a => same a t)] := by
 have H := indexFuncTerm_c xs (fun a => same a t) 207 [.ptr (tmC t)] fun x _ => indexAtom1_c x t
 simp only [tmD, tmC_eq t] at H ⊢
 refine FC_of Tryz.call167 Tryz.func167 rfl (by kernel_rfl) (by simp only [rd, List.map_cons, List.map_nil, List.length_cons, List.length_nil, Tryz.ntmps167]; omega) ?_
 simp -implicitDefEqProofs only [go_sem, Tryz.results167]
 refine callF (H) (by simp -implicitDefEqProofs only [go_sem]) ?_
 simp -implicitDefEqProofs only [go_sem]
theorem l16Index_c (xs : List Tm) (t : Tm) : FC Tryz.prog 163 [.one (tmS xs), tmD t] [iD (idxP xs fun a => same a t)] := by
 refine FC_wf (fun hw => ?_) Tryz.call163
 have hl : xs.length ≤ 9223372036854775807 := by simpa [wfDs, wfT] using hw.1.1
 simp only [tmD, tmC_eq t]
 refine FC_of Tryz.call163 Tryz.func163 rfl (by kernel_rfl) (by simp only [rd, List.map_cons, List.map_nil, List.length_cons, List.length_nil, Tryz.ntmps163]; omega) ?_
 simp -implicitDefEqProofs only [go_sem, Tryz.results163]
 refine loop_rule (fun k : Nat => hd [(0, vT (tmS xs)), (3, .one (.bx 3 0)), (5, vI k)] [(3, [.t (.str t.name), .t (tmS t.args)])] []) (fun k => k ≤ xs.length ∧ ∀ x ∈ xs.take k, same x t = false) (fun k => xs.length - k) 0 (weak_hd ?_) ⟨Nat.zero_le _, by simp⟩ ?_
 ·simp -implicitDefEqProofs only [go_sem]
 ·rintro k ⟨hk, hT⟩
  by_cases hlt : k < xs.length
  ·have HC := l2Same_c xs[k] t
   simp only [tmD, tmC_eq xs[k], tmC_eq t] at HC
   simp -implicitDefEqProofs only [go_sem, hlt]
   refine drawn (by kernel_rfl) ?_
   simp -implicitDefEqProofs only [go_sem, getD_at, hlt, tmC_eq xs[k]]
   refine dCallF (HC) (by simp -implicitDefEqProofs only [go_sem]) ?_
   simp -implicitDefEqProofs only [go_sem]
   refine ⟨by kernel_rfl, fun h => ?_, fun h => ?_⟩
   ·rw [idxP_found hlt hT h]
   ·refine ⟨k + 1, ⟨hlt, take_all_succ hlt hT h⟩, by omega, weak_hd ?_⟩
    simp -implicitDefEqProofs only [go_sem]
    rw [wrap_s (by omega)]
  ·simp -implicitDefEqProofs only [go_sem, hlt]
   rw [List.take_of_length_le (by omega)] at hT
   rw [idxP_none hT]
end Go.Proofs.YtbccfiillleimaaGreat
namespace Go.Proofs.YtbccfiillleimaaGreat
set_option linter.unusedSimpArgs false
set_option linter.unusedVariables false
set_option linter.unusedSectionVars false
set_option maxRecDepth 4000
open Go.RowKit
variable {P : Program}
theorem ev_head {w : World} {A : Nat → Prop} {x : Ev} {v : Value} {fp : List Nat} (h : EvR w A x v fp) (hd : x.deep = true) (hf : flR x.rows = true) : ∀ b ∈ fp, fp.head? = some b := by
 obtain ⟨ao, cap, e1, e2, e3, e4⟩ := h
 rcases e4 with ⟨_, _, _, rfl⟩ | ⟨b', cells, ty, fps, _, rfl, e7, e8, e9⟩
 ·intro b hb; simp at hb
 ·rw [if_pos hd] at e9
  rw [e9.flat hf]
  intro b hb
  simp at hb
  rw [hb]; rfl
def turnG (g : Gh) (e n : Nat) (v : Value) (fp : List Nat) : Gh := ⟨g.β, fun e' n' => if e' = e ∧ n' = n then v else g.ψ e' n', upd g.φ e fp, g.A0, g.R0⟩
theorem Rel.turnB {n0 : Nat → Prop} {N : Nat} {σ : St} {g : Gh} {a : Act} {w w' : World} {k e : Nat} {x : Ev} {rows' : List (List T)} {v' : Value} {fp' : List Nat} (h : Rel n0 N σ g a w) (hn0 : LtK n0 w) (hk : σ.bx k ≠ none) (hx : σ.ev e = some x) (hxo : x.on = true) (hxd : x.deep = true) (hfl : flR x.rows = true)
  (hb : Bk (fun b => b < w.heap.size ∧ b ∉ g.φ e ∧ b ≠ g.β k) w w') (ho : OwnV w' (.sl x.sz rows') v' fp') (hnd : fp'.Nodup) (hfp : ∀ b ∈ fp', b ∈ g.φ e ∨ w.heap.size ≤ b) (hbx : ∃ ty, w'.heap[g.β k]? = some (.cells ⟨[v']⟩ ty (0, 0))) :
  Rel n0 N ⟨σ.sl, upd σ.bx k (some [.ow e (x.gen + 1)]), upd σ.ev e (some ⟨true, x.sz, rows', x.gen + 1, true⟩)⟩ (turnG g e (x.gen + 1) v' fp') a w' := by
 have hOn : σ.On e := ⟨x, hx, hxo⟩
 have hE := h.evs e x hx hxo
 have hhd := ev_head hE hxd hfl
 have hlt : ∀ e', σ.On e' → ∀ b ∈ g.φ e', b < w.heap.size := fun e' ⟨y, hy, hyo⟩ => (h.evs e' y hy hyo).lt
 have hon : ∀ e', e' ≠ e → St.On ⟨σ.sl, upd σ.bx k (some [.ow e (x.gen + 1)]), upd σ.ev e (some ⟨true, x.sz, rows', x.gen + 1, true⟩)⟩ e' → σ.On e' := fun e' hne ⟨y, hy, hyo⟩ => ⟨y, by have hy : upd σ.ev e _ e' = some y := hy; rw [upd_ne _ _ hne] at hy; exact hy, hyo⟩
 have hφn : ∀ e', e' ≠ e → (turnG g e (x.gen + 1) v' fp').φ e' = g.φ e' := fun e' hne => upd_ne _ _ hne
 have hφe : (turnG g e (x.gen + 1) v' fp').φ e = fp' := upd_same _ _ _
 have hdom : ∀ b, upd σ.bx k (some [C.ow e (x.gen + 1)]) b ≠ none ↔ σ.bx b ≠ none := fun b => by
  by_cases hbk : b = k
  ·subst hbk; rw [upd_same]; exact ⟨fun _ => hk, fun _ => by simp⟩
  ·rw [upd_ne _ _ hbk]
 have hfixn : ∀ b, Fix σ g w b → b ∉ g.φ e := fun b hf hm => hf.2.1 e x hx hxo (hhd b hm)
 have hnew : ∀ b, b < w.heap.size → b ∉ g.φ e → b ∉ fp' := fun b hl hn hm => by
  rcases hfp b hm with h1 | h1
  ·exact hn h1
  ·omega
 have hψ : ∀ e' n, (e' ≠ e ∨ n ≤ x.gen) → (turnG g e (x.gen + 1) v' fp').ψ e' n = g.ψ e' n := fun e' n hh => if_neg fun hc => by
  rcases hh with hh | hh
  ·exact hh hc.1
  ·omega
 have m : Mv σ ⟨σ.sl, upd σ.bx k (some [.ow e (x.gen + 1)]), upd σ.ev e (some ⟨true, x.sz, rows', x.gen + 1, true⟩)⟩ g (turnG g e (x.gen + 1) v' fp') w w' := by
  refine ⟨fun b hf => hb.block b ⟨hf.2.2.1, hfixn b hf, fun e' => hf.1 k hk e'.symm⟩, fun b hf => ⟨fun j hj => hf.1 j ((hdom j).1 hj), fun e' y hy hyo hh => ?_, Nat.lt_of_lt_of_le hf.2.2.1 hb.size, hf.2.2.2⟩, fun b hbb => ⟨rfl, (hdom b).2 hbb⟩, fun e' n he => ?_, fun b hf e' he hm => ?_⟩
  ·by_cases hee : e' = e
   ·subst hee
    rw [hφe] at hh
    exact hnew b hf.2.2.1 (hfixn b hf) (List.mem_of_mem_head? hh)
   ·rw [hφn e' hee] at hh
    have hy : upd σ.ev e _ e' = some y := hy
    rw [upd_ne _ _ hee] at hy
    exact hf.2.1 e' y hy hyo hh
  ·obtain ⟨y, hy, hg⟩ := he
   by_cases hee : e' = e
   ·subst hee
    rw [hx] at hy
    cases hy
    exact ⟨⟨_, upd_same _ _ _, Nat.le_succ_of_le hg⟩, hψ _ _ (Or.inr hg)⟩
   ·exact ⟨⟨y, (upd_ne _ _ hee).trans hy, hg⟩, hψ _ _ (Or.inl hee)⟩
  ·by_cases hee : e' = e
   ·subst hee
    rw [hφe] at hm
    exact hnew b hf.1.2.2.1 (hf.2 e' hOn) hm
   ·rw [hφn e' hee] at hm
    exact hf.2 e' (hon e' hee he) hm
 refine ⟨h.defers, h.size, h.anew, fun i => m.vr (h.slots i), fun b cs hbb => ?_, fun b hbb => h.base b ((hdom b).1 hbb), fun b b' h1 h2 h3 => h.inj b b' ((hdom b).1 h1) ((hdom b').1 h2) h3, fun e' y he hyo => ?_, fun e' y he hyo => ?_, fun e' n => ?_, fun e' he b hbb => ?_, fun e' he b hbb => ?_, fun e' he => ?_, fun e1 e2 h1 h2 hne b hb1 hb2 => ?_, fun e' j he hj hm => ?_⟩
 ·have hbb : upd σ.bx k _ b = some cs := hbb
  by_cases hbk : b = k
  ·subst hbk
   rw [upd_same] at hbb
   cases hbb
   obtain ⟨ty, hbx⟩ := hbx
   exact ⟨_, ty, hbx, v', [], rfl, ⟨(if_pos ⟨rfl, rfl⟩).symm, _, upd_same _ _ _, Nat.le_refl _⟩, rfl⟩
  ·rw [upd_ne _ _ hbk] at hbb
   obtain ⟨vs, ty, k1, k2⟩ := h.boxes b cs hbb
   have hne0 : σ.bx b ≠ none := by rw [hbb]; simp
   exact ⟨vs, ty, by rw [← k1]; exact hb.block _ ⟨h.lt hne0, h.ebx e b hOn hne0, fun e' => hbk (h.inj b k hne0 hk e')⟩, m.crs k2⟩
 ·by_cases hee : e' = e
  ·subst hee
   have he : upd σ.ev e' _ e' = some y := he
   rw [upd_same] at he
   cases he
   rw [hφe]
   show EvR w' _ _ (if e' = e' ∧ x.gen + 1 = x.gen + 1 then v' else _) fp'
   rw [if_pos ⟨rfl, rfl⟩]
   unfold OwnV at ho
   obtain ⟨ao, cap, j1, j2, j3, j4⟩ := ho
   refine ⟨ao, cap, j1, j2, j3, ?_⟩
   rcases j4 with j4 | ⟨b, cells, ty, fps, j4, j5, j6, j7, j8⟩
   ·exact Or.inl j4
   ·exact Or.inr ⟨b, cells, ty, fps, j4, j5, j6, j7, by rw [if_pos rfl]; exact j8⟩
  ·have he : upd σ.ev e _ e' = some y := he
   rw [upd_ne _ _ hee] at he
   rw [hφn e' hee, hψ _ _ (Or.inl hee)]
   refine m.evr (h.evs e' y he hyo) fun b hbb => hb.block b ⟨hlt e' ⟨y, he, hyo⟩ b hbb, fun hm => h.apart e' e ⟨y, he, hyo⟩ hOn hee b hbb hm, fun e'' => h.ebx e' k ⟨y, he, hyo⟩ hk (e'' ▸ hbb)⟩
 ·by_cases hee : e' = e
  ·subst hee
   have he : upd σ.ev e' _ e' = some y := he
   rw [upd_same] at he
   cases he
   cases hyo
  ·have he : upd σ.ev e _ e' = some y := he
   rw [upd_ne _ _ hee] at he
   rw [hψ _ _ (Or.inl hee)]
   exact ⟨m.rep (h.offs e' y he hyo).1, (h.offs e' y he hyo).2⟩
 ·by_cases hc : e' = e ∧ n = x.gen + 1
  ·obtain ⟨rfl, rfl⟩ := hc
   unfold OwnV at ho
   obtain ⟨ao, cap, j1, _⟩ := ho
   exact ⟨ao, _, cap, by rw [← j1]; exact if_pos ⟨rfl, rfl⟩⟩
  ·show ∃ ao l c, (if e' = e ∧ n = x.gen + 1 then v' else g.ψ e' n) = _
   rw [if_neg hc]
   exact h.slc e' n
 ·by_cases hee : e' = e
  ·subst hee
   rw [hφe] at hbb
   rcases hfp b hbb with h1 | h1
   ·exact h.ebase e' hOn b h1
   ·exact h.anew b (hn0.new h1)
  ·rw [hφn e' hee] at hbb
   exact h.ebase e' (hon e' hee he) b hbb
 ·by_cases hee : e' = e
  ·subst hee
   rw [hφe] at hbb
   rcases hfp b hbb with h1 | h1
   ·exact h.etop e' hOn b h1
   ·exact hn0.new h1
  ·rw [hφn e' hee] at hbb
   exact h.etop e' (hon e' hee he) b hbb
 ·by_cases hee : e' = e
  ·subst hee; rw [hφe]; exact hnd
  ·rw [hφn e' hee]; exact h.nodup e' (hon e' hee he)
 ·by_cases g1 : e1 = e
  ·subst g1
   rw [hφe] at hb1
   have hee : e2 ≠ e1 := fun hh => hne hh.symm
   rw [hφn e2 hee] at hb2
   rcases hfp b hb1 with h3 | h3
   ·exact h.apart e1 e2 hOn (hon e2 hee h2) hne b h3 hb2
   ·have := hlt e2 (hon e2 hee h2) b hb2; omega
  ·rw [hφn e1 g1] at hb1
   by_cases g2 : e2 = e
   ·subst g2
    rw [hφe] at hb2
    rcases hfp b hb2 with h3 | h3
    ·exact h.apart e1 e2 (hon e1 g1 h1) hOn hne b hb1 h3
    ·have := hlt e1 (hon e1 g1 h1) b hb1; omega
   ·rw [hφn e2 g2] at hb2
    exact h.apart e1 e2 (hon e1 g1 h1) (hon e2 g2 h2) hne b hb1 hb2
 ·have hj' := (hdom j).1 hj
  by_cases hee : e' = e
  ·subst hee
   rw [hφe] at hm
   rcases hfp _ hm with h3 | h3
   ·exact h.ebx e' j hOn hj' h3
   ·have h3 : w.heap.size ≤ g.β j := h3
    have := h.lt hj'; omega
  ·rw [hφn e' hee] at hm
   exact h.ebx e' j (hon e' hee he) hj' hm
def oneO (σ : St) (k : Nat) (sz : Nat) (rows : List (List T)) (K : Nat → Ev → Prop) : Prop := match σ.bx k with
 | some [.ow e n] => onSome (σ.ev e) fun x => x.deep = true ∧ x.on = true ∧ x.gen = n ∧ x.sz = sz ∧ x.rows = rows ∧ flR rows = true ∧ K e x
 | _ => False
theorem oneO_ex {σ : St} {k sz : Nat} {rows : List (List T)} {K : Nat → Ev → Prop} (h : oneO σ k sz rows K) : ∃ e x, σ.bx k = some [.ow e x.gen] ∧ σ.ev e = some x ∧ x.deep = true ∧ x.on = true ∧ x.sz = sz ∧ x.rows = rows ∧ flR rows = true ∧ K e x := by
 unfold oneO at h
 split at h
 ·rename_i e n hb
  obtain ⟨x, h1, h2, h3, rfl, h5, h6, h7, h8⟩ := onSome_ex h
  exact ⟨e, x, hb, h1, h2, h3, h5, h6, h7, h8⟩
 ·exact h.elim
def St.bxE (σ : St) (k : Nat) : Nat := match σ.bx k with
 | some [.ow e _] => e
 | _ => 0
def turnE (σ : St) (k : Nat) (rows' : List (List T)) : List (Nat × Ev) := match σ.ev (σ.bxE k) with
 | some x => [(σ.bxE k, ⟨true, x.sz, rows', x.gen + 1, true⟩)]
 | none => []
def turnL (σ : St) (k : Nat) : List (Nat × List C) := match σ.ev (σ.bxE k) with
 | some x => [(k, [.ow (σ.bxE k) (x.gen + 1)])]
 | none => []
def flD : List (Bool × D) → Bool
 | [] => true
 | (_, .one t) :: ds => t.flat && flD ds
 | _ => false
def flV : List (Bool × D) → List V
 | [] => []
 | (_, .one t) :: ds => .one (.t t) :: flV ds
 | (_, .agg ts) :: ds => .agg (ts.map .t) :: flV ds
theorem flV_tup : ∀ (ds : List (Bool × D)), ∀ v ∈ flV ds, v.isTup = false
 | [], v, h => by simp [flV] at h
 | (_, .one t) :: ds, v, h => by
  simp only [flV, List.mem_cons] at h
  rcases h with rfl | h
  ·rfl
  ·exact flV_tup ds v h
 | (_, .agg t) :: ds, v, h => by
  simp only [flV, List.mem_cons] at h
  rcases h with rfl | h
  ·rfl
  ·exact flV_tup ds v h
theorem flD_vr {σ : St} {g : Gh} {w w' : World} {A : Nat → Prop} : ∀ {ds : List (Bool × D)} {us : List Value} {fp tp : List Nat}, flD ds = true → GArgs w' A ds us fp tp → VRl σ g w (flV ds) us ∧ fp = []
 | [], us, fp, tp, _, h => ⟨h.1, h.2.1⟩
 | (false, .one t) :: ds, us, fp, tp, hf, h => by
  rw [flD, Bool.and_eq_true] at hf
  obtain ⟨v, vs', rfl, h1, h2⟩ := h
  obtain ⟨k1, k2⟩ := flD_vr (σ := σ) (g := g) (w := w) hf.2 h2
  have h1 : RepV w' A t v := h1
  exact ⟨⟨v, vs', rfl, flat_rep hf.1 h1, k1⟩, k2⟩
 | (true, .one t) :: ds, us, fp, tp, hf, h => by
  rw [flD, Bool.and_eq_true] at hf
  obtain ⟨v, vs', f1, f2, t1, t2, rfl, rfl, rfl, h1, h2⟩ := h
  obtain ⟨k1, k2⟩ := flD_vr (σ := σ) (g := g) (w := w) hf.2 h2
  have h1 : OwnV w' t v f1 := h1.1
  have h0 : f1 = [] ∧ RepV w (Fix σ g w) t v := by
   have hf1 := hf.1
   cases t <;> simp only [T.flat, Bool.false_eq_true] at hf1
   ·unfold OwnV at h1; unfold RepV; exact ⟨h1.2.2.2, h1.1, h1.2.1, h1.2.2.1⟩
   ·unfold OwnV at h1; unfold RepV; exact ⟨h1.2, h1.1⟩
   ·unfold OwnV at h1; unfold RepV; exact ⟨h1.2.2, h1.1, h1.2.1⟩
   ·unfold OwnV at h1; unfold RepV; exact ⟨h1.2, h1.1⟩
  exact ⟨⟨v, vs', rfl, h0.2, k1⟩, by rw [h0.1, k2]; rfl⟩
 | (_, .agg _) :: _, _, _, _, hf, _ => by cases hf
def St.callT (σ : St) (d k : Nat) (rows' : List (List T)) (res : List (Bool × D)) : St := (σ.upEB (turnE σ k rows') (turnL σ k)).put (some d) (tupV (flV res))
theorem sem_callT {o : Oper} {σ : St} {x : Operand} {asx : Array Operand} {ts : Array TypeId} {f : FuncId} {cvs : List V} {d k sz : Nat} {rows rows' : List (List T)} {l : List AF} {res : List (Bool × D)} (ho : o.op = .call ⟨.value x, asx, ts⟩) (hd : o.dst = some d)
  (h : PC P f [[(true, .sl sz rows)]] l [[(true, .sl sz rows')]] res) (hc : calleeOf (σ.get P 0 x) = some (f, cvs)) (hr : flD res = true)
  (hv : mtK [k] l (σ.gets P asx ts ++ cvs) fun us => gvQ us (AF.ds l)) (hb : oneO σ k sz rows fun _ _ => True) : StepSem P o σ (σ.callT d k rows' res) := by
 intro n0 N g a w hR hn hdN
 obtain ⟨vs, h1, h2⟩ := call_run hR ho hc h.1
 unfold Oper.wp
 rw [h1]
 obtain ⟨e, z, hbx, hz, zd, zo, rfl, rfl, zf, _⟩ := oneO_ex hb
 have hk : σ.bx k ≠ none := by rw [hbx]; simp
 have hOn : σ.On e := ⟨z, hz, zo⟩
 let bs : Nat → Nat := fun j => g.β (([k] : List Nat).getD j 0)
 have hbs : ∀ j b, ([k] : List Nat)[j]? = some b → bs j = g.β b := fun j b hj => by show g.β (([k] : List Nat).getD j 0) = _; rw [List.getD_eq_getElem?_getD, hj]; rfl
 obtain ⟨us, dvs, a1, a2, a3, rfl⟩ := mtK_sound hbs hv h2
 have k2 := gvQ_sound a1 a2
 obtain ⟨cvs', ty, b1, b2⟩ := hR.boxes k _ hbx
 obtain ⟨v, vs', e1, ⟨b3, _⟩, b4⟩ := b2
 have b4 : vs' = [] := b4
 subst b4
 have hown : OwnV w (.sl z.sz z.rows) (g.ψ e z.gen) (g.φ e) := own_event hR (by obtain ⟨zd', zs', zr', zg', zo'⟩ := z; simp only at zd zo; subst zd zo; exact hz)
 have hfn : ∀ b, Free σ g w b → b ∉ g.φ e := fun b hb => hb.2 e hOn
 have hbs0 : bs 0 = g.β k := rfl
 have hga : GArgs w (fun q => (q < w.heap.size ∧ q ∉ g.φ e ∧ ∀ j, j < 1 → q ≠ bs j) ∧ Free σ g w q) (AF.ds l ++ bxA [(true, .sl z.sz z.rows)]) (dvs ++ [v]) ([] ++ g.φ e) ([] ++ topT (.sl z.sz z.rows) (g.φ e)) := by
  have hq : ∀ b, Free σ g w b → ∀ j, j < 1 → b ≠ bs j := fun b hb j hj he => by
   have hj0 : j = 0 := by omega
   subst hj0
   exact hb.1.1 k hk (by rw [← hbs0, he])
  refine GArgs.append (GArgs.keepA (fun b hb => ⟨⟨hb.1.2.2.1, hfn b hb, hq b hb⟩, hb⟩) k2) ?_
  ·exact ⟨v, [], g.φ e, [], _, [], rfl, by simp, by simp, ⟨by rw [b3]; exact hown, rfl⟩, rfl, rfl, rfl⟩
 rw [List.nil_append, List.nil_append] at hga
 have hbf : ∀ j, j < ([[(true, T.sl z.sz z.rows)]] : Bxs).length → bs j ∉ g.φ e := fun j hj => by
  simp only [List.length_singleton] at hj
  have hj0 : j = 0 := by omega
  subst hj0
  rw [hbs0]
  exact hR.ebx e k hOn hk
 have hBI : BxIn w bs 0 [[v]] [[(true, T.sl z.sz z.rows)]] := by
  refine ⟨rfl, ⟨ty, ?_⟩, trivial⟩
  rw [hbs0, b1]
  have : cvs' = ⟨[v]⟩ := by cases cvs'; simp only at e1; rw [e1]
  rw [this]
 refine (h.2.2 w bs [[v]] dvs (g.φ e) _ (Free σ g w) (fun i j hi hj _ => by simp only [List.length_singleton] at hi hj; omega) hbf hBI hga (hR.nodup e hOn) a3).mono ?_
 rintro en w' ⟨us', bvs', fp', tp', rfl, hbx', hlu, o1, o2, o3, hbk⟩
 obtain ⟨v1, v2, f1, f2, t1, t2, ev, rfl, et, p1, p2⟩ := GArgs.split o1
 obtain ⟨rfl, rfl⟩ := List.append_inj ev (by rw [hlu, GArgs.len p1])
 match bvs', hbx' with
 | [cs], ⟨hl1, ⟨ty', hty⟩, _⟩ =>
  obtain ⟨v', e2⟩ := List.length_eq_one_iff.1 (show cs.length = 1 from hl1)
  subst e2
  have p2 : GArgs w' _ [(true, .one (.sl z.sz rows'))] [v'] f2 t2 := p2
  obtain ⟨u, us2, g1, g2, s1, s2, e3, rfl, rfl, ⟨hown', _⟩, e4⟩ := p2
  obtain ⟨rfl, rfl, rfl⟩ := e4
  cases e3
  have hown' : OwnV w' (.sl z.sz rows') v' g1 := hown'
  obtain ⟨hf1, hf1e⟩ := flD_vr (σ := ⟨σ.sl, upd σ.bx k (some [.ow e (z.gen + 1)]), upd σ.ev e (some ⟨true, z.sz, rows', z.gen + 1, true⟩)⟩) (g := turnG g e (z.gen + 1) v' g1) (w := w') hr p1
  subst hf1e
  rw [List.nil_append, List.append_nil] at o2 o3
  have hT := hR.turnB (k := k) (e := e) hn hk hz zo zd zf (w' := w') (rows' := rows') (v' := v') (fp' := g1) ⟨hbk.os, hbk.tape, hbk.output, hbk.size, fun q hq => hbk.block q ⟨hq.1, hq.2.1, fun j hj he => by
   simp only [List.length_singleton] at hj
   have hj0 : j = 0 := by omega
   subst hj0
   exact hq.2.2 (he.trans hbs0)⟩⟩ hown' o2 o3 ⟨ty', by rw [hbs0] at hty; exact hty⟩
  have hBk : Bk n0 w w' := ⟨hbk.os, hbk.tape, hbk.output, hbk.size, fun q hq => hbk.block q ⟨hn q hq, fun hm => hR.etop e hOn q hm hq, fun j hj he => by
   simp only [List.length_singleton] at hj
   have hj0 : j = 0 := by omega
   subst hj0
   exact hR.base k hk (by rw [← hbs0, ← he]; exact hq)⟩⟩
  have hE : σ.bxE k = e := by unfold St.bxE; rw [hbx]
  have hst : σ.upEB (turnE σ k rows') (turnL σ k) = ⟨σ.sl, upd σ.bx k (some [.ow e (z.gen + 1)]), upd σ.ev e (some ⟨true, z.sz, rows', z.gen + 1, true⟩)⟩ := by
   unfold St.upEB turnE turnL
   rw [hE, hz]
   rfl
  refine ⟨turnG g e (z.gen + 1) v' g1, ?_, hBk, rfl, rfl⟩
  have hp := hT.put (some d) (x := tupV (flV res)) (v := resVal us') (tupV_vr hf1 (flV_tup res)) (fun i hi => by cases hi; exact hdN d hd)
  unfold St.callT
  rw [hst, hd]
  exact hp
section
variable {ks : List Fr} {Q : Exit → St → Prop} {σ : St} {ops : Array Oper} {os : List Oper} {L : List (List Ky × List Ky)} {gR : List Ky} {ty : TypeId} {ps : String} {af : Array Edge} {d k sz : Nat} {x : Operand} {asx : Array Operand} {ts : Array TypeId} {f : FuncId} {rows rows' : List (List T)} {l : List AF} {res : List (Bool × D)}
theorem callT (k : Nat) (h : PC P f [[(true, .sl sz rows)]] l [[(true, .sl sz rows')]] res) (hr : flD res = true)
  (hp : onSome (calleeOf (σ.get P 0 x)) fun p => p.1 = f ∧ mtK [k] l (σ.gets P asx ts ++ p.2) fun us => gvQ us (AF.ds l)) (hb : oneO σ k sz rows fun _ _ => True)
  (c : exo P ops os ks Q (σ.callT d k rows' res)) : exo P ops (⟨some d, .call ⟨.value x, asx, ts⟩, ty, ps, af, none⟩ :: os) ks Q σ := by
 obtain ⟨⟨f', cvs⟩, h1, rfl, h2⟩ := onSome_ex hp
 exact exo_sem rfl rfl (sem_callT rfl rfl h h1 hr h2 hb) c
theorem loc_callT {cvs : List V} (h : PC P f [[(true, .sl sz rows)]] l [[(true, .sl sz rows')]] res) (hr : flD res = true) (hc : calleeOf (σ.get P 0 x) = some (f, cvs))
  (hv : mtK [k] l (σ.gets P asx ts ++ cvs) fun us => gvQ us (AF.ds l)) (hb : oneO σ k sz rows fun _ _ => True) :
  LocS P ⟨some d, .call ⟨.value x, asx, ts⟩, ty, ps, af, none⟩ (keysOf (x :: asx.toList) ++ [(1, k), (2, σ.bxE k)]) (dK (some d) ++ (boK (turnL σ k) ++ eK (turnE σ k rows'))) σ (σ.callT d k rows' res) := by
 unfold St.callT
 refine LocS.ofB rfl (okK_app (keysOf_ok _) rfl) fun σ1 hs => ?_
 have e1 : σ1.get P 0 x = σ.get P 0 x := get_loc (l := x :: asx.toList) (fun k hk => hs k (by simp only [List.mem_append]; exact Or.inl hk)) (by simp) 0
 have e2 : σ1.gets P asx ts = σ.gets P asx ts := gets_loc2 fun k hk => hs k (by simp only [List.mem_append]; exact Or.inl (keysOf_cons_mem hk))
 have e3 : σ1.bx k = σ.bx k := Eq.symm (hs (1, k) (by simp))
 have e4 : σ1.bxE k = σ.bxE k := by unfold St.bxE; rw [e3]
 have e5 : σ1.ev (σ.bxE k) = σ.ev (σ.bxE k) := Eq.symm (hs (2, σ.bxE k) (by simp))
 have t1 : turnE σ1 k rows' = turnE σ k rows' := by unfold turnE; rw [e4, e5]
 have t2 : turnL σ1 k = turnL σ k := by unfold turnL; rw [e4, e5]
 have hb1 : oneO σ1 k sz rows fun _ _ => True := by
  obtain ⟨e, z, q1, q2, q3, q4, q5, q6, q7, _⟩ := oneO_ex hb
  have hE : σ.bxE k = e := by unfold St.bxE; rw [q1]
  unfold oneO
  rw [e3, q1]
  rw [hE] at e5
  simp only
  rw [e5, q2]
  exact ⟨q3, q4, rfl, q5, q6, q7, trivial⟩
 rw [← t1, ← t2]
 exact sem_callT rfl rfl h (by rw [e1]; exact hc) hr (by rw [e2]; exact hv) hb1
theorem gCallT (k : Nat) (h : PC P f [[(true, .sl sz rows)]] l [[(true, .sl sz rows')]] res) (hr : flD res = true)
  (hp : onSome (calleeOf (σ.get P 0 x)) fun p => p.1 = f ∧ mtK [k] l (σ.gets P asx ts ++ p.2) fun us => gvQ us (AF.ds l)) (hb : oneO σ k sz rows fun _ _ => True)
  (c : exd P ops os (L ++ [(gR ++ (keysOf (x :: asx.toList) ++ [(1, k), (2, σ.bxE k)]), dK (some d) ++ (boK (turnL σ k) ++ eK (turnE σ k rows')))]) ks Q (σ.callT d k rows' res)) :
  exdG P ops ⟨some d, .call ⟨.value x, asx, ts⟩, ty, ps, af, none⟩ os L gR ks Q σ := by
 obtain ⟨⟨f', cvs⟩, h1, rfl, h2⟩ := onSome_ex hp
 exact exdG_of _ _ _ _ _ _ rfl (loc_callT h hr h1 h2 hb) c
end
section
variable {d : Option Nat} {ty : TypeId} {ps : String} {af : Array Edge} (ops : Array Oper) (os : List Oper) (L : List (List Ky × List Ky)) (ks : List Fr) (Q : Exit → St → Prop) (σ : St)
def exdGS (P : Program) (ops : Array Oper) (o : Oper) (os : List Oper) (L : List (List Ky × List Ky)) (gR : List Ky) (ks : List Fr) (Q : Exit → St → Prop) (σ : St) : Prop := exdG P ops o os L gR ks Q σ
theorem exdG_slice (gR : List Ky) (t : TypeId) (x : Operand) (l h m : Option Operand) : exdG P ops ⟨d, .slice t x l h m, ty, ps, af, none⟩ os L gR ks Q σ = owK (σ.get P t x) (exdGS P ops ⟨d, .slice t x l h m, ty, ps, af, none⟩ os L gR ks Q σ) (thn (st P ⟨d, .slice t x l h m, ty, ps, af, none⟩ σ) (exd P ops os (L ++ [(gR ++ (keysOf (x :: (l.toList ++ h.toList ++ m.toList)) ++ []), dK d ++ [])]) ks Q)) := by
 unfold owK
 split
 ·rfl
 ·rename_i h
  exact exdG_st _ _ _ _ _ _ (by unfold semS semA; simpa [semO] using h)
end
attribute [go_sem ↓] exdG_slice
theorem bxE_at (σ : St) (k : Nat) : σ.bxE k = match σ.bx k with
 | some [.ow e _] => e
 | _ => 0 := rfl
attribute [go_sem] oneO bxE_at turnE turnL flV St.upEB St.callT
end Go.Proofs.YtbccfiillleimaaGreat
namespace Go.Proofs.YtbccfiillleimaaGreat
set_option linter.unusedSimpArgs false
set_option linter.unusedVariables false
set_option linter.unusedSectionVars false
set_option maxRecDepth 4000
open Go.RowKit
noncomputable def dec (p : Prop) : Bool := @decide p (Classical.propDecidable _)
theorem dec_iff {p : Prop} : dec p = true ↔ p := by simp [dec]
theorem dec_no {p : Prop} : dec p = false ↔ ¬ p := by simp [dec]
def TOk (xs : List Tm) : Prop := ∀ k (h : k < xs.length), xs[k].good = true ∧ ((xs.take k).any fun a => same a xs[k]) = false
noncomputable def termsI (e : Ex) (pos : Bool) (E : List Str) : Bool × List Str :=
 if dec (TOk e.terms) = true then
  (if ((e.form.op == 8) == pos) = true then
   (match e.terms with
   | [t] => if (varOk t.name && !E.contains t.name) = true then (decide (e.parts.length = 1), E ++ [t.name]) else (false, E)
   | _ => (false, E))
  else (decide (e.parts.length = e.terms.length), E))
 else (false, E)
theorem up_var {t : Tm} (h : t.good = true) : isUp (t.name.getD 0 0) = varOk t.name ∧ 0 < t.name.length := by
 unfold Tm.good at h
 rw [Bool.and_eq_true] at h
 have h := h.2
 rw [Tm.names_eq] at h
 by_cases hv : varOk t.name = true
 ·obtain ⟨h1, h2⟩ := varOk_up hv
  exact ⟨h1.trans hv.symm, h2⟩
 ·rw [if_neg hv] at h
  simp only [Bool.and_eq_true] at h
  obtain ⟨h1, h2⟩ := symOk_low h.1.1
  exact ⟨h1.trans (by simpa using hv), h2⟩
theorem TOk.snoc {xs : List Tm} {k : Nat} (h : k < xs.length) (hT : ∀ j, j < k → ∀ hj : j < xs.length, xs[j].good = true ∧ ((xs.take j).any fun a => same a xs[j]) = false) (h1 : xs[k].good = true) (h2 : ((xs.take k).any fun a => same a xs[k]) = false) : ∀ j, j < k + 1 → ∀ hj : j < xs.length, xs[j].good = true ∧ ((xs.take j).any fun a => same a xs[j]) = false := fun j hj hl => by
 by_cases e : j = k
 ·subst e; exact ⟨h1, h2⟩
 ·exact hT j (by omega) hl
theorem terms_c (e : Ex) (he : e.wt ≤ 1048576) (pos : Bool) (E : List Str) (hE : E.length ≤ 4194304) : PC Tryz.prog 201 [[(true, .sl 1 (E.map fun s => [.str s]))]] [.p 0, .d false (exD e), .d false (bD pos)] [[(true, .sl 1 ((termsI e pos E).2.map fun s => [.str s]))]] [(true, bD (termsI e pos E).1)] := by
 have hW := e.wt_eq
 have hTW : tmsW e.terms = e.terms.length + (e.terms.map Tm.wt).sum := rfl
 have HS := isStrong_c e.form pos
 simp only [exD, exC_eq, fmD, fmC_eq] at HS ⊢
 refine PC_of Tryz.call201 Tryz.func201 rfl (by kernel_rfl) (by simp only [List.length_cons, List.length_nil, Tryz.ntmps201]; omega) (by simp only [Tryz.ntmps201]; omega) rfl rfl (by simp [smallG, T.isPin, AF.ds, bxA]) (by simp [gFS, T.fs, T.flat, AF.ds, bxA]) rfl ?_
 simp -implicitDefEqProofs only [go_sem, Tryz.results201]
 refine loop_rule (fun k : Nat => hd [(0, .one (.bx 1000000 0)), (1000000, .one (.bx 1000000 0)), (2, .one (.t (.bool pos))), (4, .one (.bx 4 0)), (10, .one (.rn (tmS e.terms))), (11, vI e.terms.length), (12, vI k)] [(1000000, [.ow 64 0]), (4, [.t (.int .i64 e.form.op), .t (.str e.form.atom.name), .rn (tmS e.form.atom.args), .t (.str e.form.var), .rn (fmS e.form.parts), .rn (tmS e.terms), .rn (exS e.parts)])] [(64, ⟨true, 1, E.map fun s => [.str s], 0, true⟩)]) (fun k => k ≤ e.terms.length ∧ ∀ j, j < k → ∀ hj : j < e.terms.length, e.terms[j].good = true ∧ ((e.terms.take j).any fun a => same a e.terms[j]) = false) (fun k => e.terms.length - k) 0 (weak_hd ?_) ⟨Nat.zero_le _, fun j hj => by omega⟩ ?_
 ·simp -implicitDefEqProofs only [go_sem]
 ·rintro k ⟨hk, hT⟩
  by_cases hlt : k < e.terms.length
  ·have hwt : e.terms[k].wt ≤ 1099511627776 := by have := mem_sum Tm.wt e.terms _ (List.getElem_mem hlt); omega
   have HV := isValidTerm_c e.terms[k] hwt
   have HI := indexOfAtom_c (e.terms.take k) e.terms[k]
   have hi2 := idxP_ge (e.terms.take k) fun a => same a e.terms[k]
   have hbad : (e.terms[k].good = false ∨ ((e.terms.take k).any fun a => same a e.terms[k]) = true) → termsI e pos E = (false, E) := fun h => by
    unfold termsI
    have : dec (TOk e.terms) = false := dec_no.2 fun hh => by
     obtain ⟨q1, q2⟩ := hh k hlt
     rcases h with h | h
     ·rw [q1] at h; cases h
     ·rw [q2] at h; cases h
    rw [this, if_neg (by simp)]
   simp only [tmD, tmC_eq e.terms[k]] at HV HI
   simp -implicitDefEqProofs only [go_sem, hlt]
   cases hg : e.terms[k].good
   ·rw [hbad (Or.inl hg)]
    rw [hg] at HV
    simp -implicitDefEqProofs only [go_sem, getD_at, hlt, tmC_eq e.terms[k]]
    refine drawn (by kernel_rfl) ?_
    simp -implicitDefEqProofs only [go_sem]
    refine dCallF (HV) (by simp -implicitDefEqProofs only [go_sem]) ?_
    simp -implicitDefEqProofs only [go_sem]
    kernel_rfl
   ·rw [hg] at HV
    simp -implicitDefEqProofs only [go_sem, getD_at, hlt, tmC_eq e.terms[k]]
    refine drawn (by kernel_rfl) ?_
    simp -implicitDefEqProofs only [go_sem]
    refine dCallF (HV) (by simp -implicitDefEqProofs only [go_sem]) ?_
    simp -implicitDefEqProofs only [go_sem]
    refine ⟨hk, ?_⟩
    have eT : tmS (e.terms.take k) = .sl 2 ((e.terms.map tmC).take k) := by unfold tmS; rw [List.map_take]
    rw [eT] at HI
    cases hi : (e.terms.take k).any fun a => same a e.terms[k]
    ·rw [hi] at hi2
     refine gCallF (HI) (by simp -implicitDefEqProofs only [go_sem, hi2]) ?_
     simp -implicitDefEqProofs only [go_sem, hi2]
     refine ⟨by kernel_rfl, k + 1, ⟨hlt, TOk.snoc hlt hT hg hi⟩, by omega, weak_hd ?_⟩
     simp -implicitDefEqProofs only [go_sem]
     rw [wrap_s (by omega)]
    ·rw [hi] at hi2
     rw [hbad (Or.inr hi)]
     refine gCallF (HI) (by simp -implicitDefEqProofs only [go_sem, hi2]) ?_
     simp -implicitDefEqProofs only [go_sem, hi2]
     kernel_rfl
  ·have hTok : dec (TOk e.terms) = true := dec_iff.2 fun j hj => hT j (by omega) hj
   have hval : termsI e pos E = if ((e.form.op == 8) == pos) = true then (match e.terms with | [t] => if (varOk t.name && !E.contains t.name) = true then (decide (e.parts.length = 1), E ++ [t.name]) else (false, E) | _ => (false, E)) else (decide (e.parts.length = e.terms.length), E) := by
    unfold termsI; rw [hTok, if_pos rfl]
   cases hst : (e.form.op == 8) == pos
   ·rw [hst, if_neg (by simp)] at hval
    rw [hst] at HS
    rw [hval]
    have hle : ((e.parts.length : Int) == (e.terms.length : Int)) = decide (e.parts.length = e.terms.length) := by rw [Bool.eq_iff_iff]; simp only [beq_iff_eq, decide_eq_true_eq]; omega
    simp -implicitDefEqProofs only [go_sem, hlt]
    refine callF (HS) (by simp -implicitDefEqProofs only [go_sem]) ?_
    simp -implicitDefEqProofs only [go_sem]
    exact Or.inl (by rw [hle])
   ·rw [hst, if_pos rfl] at hval
    rw [hst] at HS
    by_cases h1 : e.terms.length = 1
    ·obtain ⟨t, ht⟩ := List.length_eq_one_iff.1 h1
     have htg : t.good = true := by have := (dec_iff.1 hTok) 0 (by omega); simpa [ht] using this.1
     obtain ⟨hu, hn0⟩ := up_var htg
     have HV := isVar_c t hn0
     rw [hu] at HV
     have hval2 : termsI e pos E = if (varOk t.name && !E.contains t.name) = true then (decide (e.parts.length = 1), E ++ [t.name]) else (false, E) := by rw [hval, ht]
     have HCt := containsStr_c E t.name
     have e0 : (List.map tmC e.terms).getD 0 [] = tmC t := by rw [ht]; rfl
     have hle : ((e.parts.length : Int) == 1) = decide (e.parts.length = 1) := by rw [Bool.eq_iff_iff]; simp only [beq_iff_eq, decide_eq_true_eq]; omega
     simp only [tmD, tmC_eq t] at HV
     simp -implicitDefEqProofs only [go_sem, hlt]
     refine callF (HS) (by simp -implicitDefEqProofs only [go_sem]) ?_
     simp -implicitDefEqProofs only [go_sem]
     cases hv : varOk t.name
     ·rw [hv, Bool.false_and, if_neg (by simp)] at hval2
      rw [hv] at HV
      rw [hval2]
      refine drawn (by kernel_rfl) ?_
      simp -implicitDefEqProofs only [go_sem, h1, e0, tmC_eq t]
      refine gCallF (HV) (by simp -implicitDefEqProofs only [go_sem]) ?_
      simp -implicitDefEqProofs only [go_sem]
      kernel_rfl
     ·rw [hv, Bool.true_and] at hval2
      rw [hv] at HV
      cases hc : E.contains t.name
      ·rw [hc, if_pos (by simp)] at hval2
       rw [hc] at HCt
       rw [hval2]
       refine drawn (by kernel_rfl) ?_
       simp -implicitDefEqProofs only [go_sem, h1, e0, tmC_eq t]
       refine gCallF (HV) (by simp -implicitDefEqProofs only [go_sem, h1, e0, tmC_eq t]) ?_
       simp -implicitDefEqProofs only [go_sem, h1, e0, tmC_eq t]
       refine gCallF (HCt) (by simp -implicitDefEqProofs only [go_sem]) ?_
       simp -implicitDefEqProofs only [go_sem]
       refine ⟨by kernel_rfl, ?_⟩
       refine drawn (by kernel_rfl) ?_
       simp -implicitDefEqProofs only [go_sem, h1, e0, tmC_eq t]
       have hE2 : E.length ≤ 4294967295 := by omega
       refine dBuildDc (by simp -implicitDefEqProofs only [go_sem]) ?_
       simp -implicitDefEqProofs only [go_sem]
       refine dApD true (by simp -implicitDefEqProofs only [go_sem, hE2, ne_eq, List.length_map]) ?_
       simp -implicitDefEqProofs only [go_sem, hE2, ne_eq, List.length_map]
       refine ⟨by kernel_rfl, ?_⟩
       simp -implicitDefEqProofs only [go_sem, h1, hle]
       exact Or.inl (Or.inl (by simp))
      ·rw [hc, if_neg (by simp)] at hval2
       rw [hc] at HCt
       rw [hval2]
       refine drawn (by kernel_rfl) ?_
       simp -implicitDefEqProofs only [go_sem, h1, e0, tmC_eq t]
       refine gCallF (HV) (by simp -implicitDefEqProofs only [go_sem, h1, e0, tmC_eq t]) ?_
       simp -implicitDefEqProofs only [go_sem, h1, e0, tmC_eq t]
       refine gCallF (HCt) (by simp -implicitDefEqProofs only [go_sem]) ?_
       simp -implicitDefEqProofs only [go_sem]
       kernel_rfl
    ·have hval2 : termsI e pos E = (false, E) := by
      rw [hval]
      split
      ·rename_i t ht; rw [ht] at h1; exact absurd rfl h1
      ·rfl
     rw [hval2]
     have hne : ((e.terms.length : Int) != 1) = true := by rw [bne_iff_ne]; omega
     simp -implicitDefEqProofs only [go_sem, hlt]
     refine callF (HS) (by simp -implicitDefEqProofs only [go_sem]) ?_
     simp -implicitDefEqProofs only [go_sem]
     refine drawn (by kernel_rfl) ?_
     simp -implicitDefEqProofs only [go_sem, hne]
     kernel_rfl
end Go.Proofs.YtbccfiillleimaaGreat
