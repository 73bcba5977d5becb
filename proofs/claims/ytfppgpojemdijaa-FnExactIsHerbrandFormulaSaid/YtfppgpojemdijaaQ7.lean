import Derived.Test.YtfppgpojemdijaaQ6
import Derived.Test.YtfppgpojemdijaaQ1
import Derived.ProofKit
import Derived.Test.YtfppgpojemdijaaRows
import Derived.OpenShut
import Derived.ShutString
import Derived.ChangeOld
/-
  Simplification of formulas: the parts.
  Conditions: those that each theorem names.
-/
namespace Go.Proofs.Ytfppgpojemdijaa
set_option linter.unusedSimpArgs false
set_option linter.unusedVariables false
set_option linter.unusedSectionVars false
set_option maxRecDepth 4000
open Go.RowKit
/- A formula without atom and variable. -/
def mkF (op : Int) (ps : List Fm) : Fm := .mk op (.mk [] []) [] ps
theorem fmC_mkF (op : Int) (ps : List Fm) : fmC (mkF op ps) = [.int .i64 op, .str [], .sl 2 [], .str [], .sl 5 (ps.map fmC)] := fmC_eq _
def isC (f : Fm) : Bool := f.op == 1 || f.op == 2
noncomputable def two (op strong weak : Int) (f g : Fm) : Fm := if (f.op == strong || g.op == strong) = true then mkF strong [] else if (f.op == weak) = true then g else if (g.op == weak || same f g) = true then f else mkF op [f, g]
noncomputable def impF (f g : Fm) : Fm := if (f.op == 1) = true then g else if (f.op == 2 || g.op == 1 || same f g) = true then mkF 1 [] else if (g.op == 2) = true then mkF 4 [f] else mkF 7 [f, g]
end Go.Proofs.Ytfppgpojemdijaa
/-
  Contracts of functions of the program and of its laws, over plain data.
  Conditions: those that each theorem names.
-/
namespace Go.Proofs.Ytfppgpojemdijaa
set_option linter.unusedSimpArgs false
set_option linter.unusedVariables false
set_option linter.unusedSectionVars false
set_option maxRecDepth 4000
open Go.RowKit
set_option maxHeartbeats 4000000 in
theorem hasForm_of (f : Fm) (hs : f.wt ≤ 1099511627776) (H : ∀ x ∈ f.parts, FC Try.prog 31 [fmD x] [bD x.forms]) : FC Try.prog 31 [fmD f] [bD f.forms] := by
  have H1 : ∀ x ∈ f.parts, FC Try.prog 47 [fmD x] [bD (!x.forms)] := fun x hx => by
    simp only [fmD, fmC_eq]
    refine FC_of Try.call47 Try.func47 rfl (by kernel_rfl) (by simp only [rd, List.map_cons, List.map_nil, List.length_cons, List.length_nil, Try.ntmps47]; omega) ?_
    simp -implicitDefEqProofs only [go_sem, Try.results47]
    refine callF (H x hx) (by simp -implicitDefEqProofs only [go_sem, fmC_eq]) ?_
    simp -implicitDefEqProofs only [go_sem, fmC_eq]
  have hN := f.forms_eq
  obtain ⟨o, a, v, ps⟩ := f
  have ha : a.wt ≤ 1099511627776 := Nat.le_trans (atom_wt (.mk o a v ps)) hs
  have e0 : ((ps.length : Int) != 0) = !decide (ps.length = 0) := len_bne _ 0
  have e1 : ((ps.length : Int) != 1) = !decide (ps.length = 1) := len_bne _ 1
  have e2 : ((ps.length : Int) != 2) = !decide (ps.length = 2) := len_bne _ 2
  simp only [Fm.parts] at H1 hN
  rcases op_cases o with rfl | rfl | rfl | rfl | rfl | rfl | rfl | rfl | rfl | ⟨n1, n2, n3, n4, n5, n6, n7, n8, n9⟩
  · have hH : Fm.here (.mk 1 a v ps) = (decide (ps.length = 0) && a.none && (v == [])) := rfl
    rw [hH] at hN
    have hq : isQ 1 = false := rfl
    have hb : isBi 1 = false := rfl
    simp only [fmD, fmC_eq, Fm.op, Fm.atom, Fm.var, Fm.parts]
    refine FC_of Try.call31 Try.func31 rfl (by kernel_rfl) (by simp only [rd, List.map_cons, List.map_nil, List.length_cons, List.length_nil, Try.ntmps31]; omega) ?_
    simp -implicitDefEqProofs only [go_sem, Try.results31]
    simp only [e0]
    refine ⟨fun h => ?_, fun h => ?_⟩
    · have h' : decide (ps.length = 0) = true := by simpa using h
      refine callF (isQuantifier_c 1) (by simp -implicitDefEqProofs only [go_sem, hq]) ?_
      simp -implicitDefEqProofs only [go_sem, hq]
      refine callF (isQuantifier_c 1) (by simp -implicitDefEqProofs only [go_sem, hq]) ?_
      simp -implicitDefEqProofs only [go_sem, hq]
      refine ⟨fun h1 => ?_, fun h1 => ?_⟩
      · rw [hN, show (v == []) = false by simpa using h1, Bool.and_false, Bool.false_and]
      · have h1' : (v == []) = true := by simpa using h1
        refine callF (isZeroTerm_c a) (by simp -implicitDefEqProofs only [go_sem, tmC_eq]) ?_
        simp -implicitDefEqProofs only [go_sem, tmC_eq]
        refine ⟨fun h2 => ?_, fun h2 => ?_⟩
        · rw [hN, show a.none = false by simpa using h2, Bool.and_false, Bool.false_and, Bool.false_and]
        · have h2' : a.none = true := by simpa using h2
          refine callF (containsFuncFormula_c ps (fun x => !x.forms) _ [] H1) (by simp -implicitDefEqProofs only [go_sem]) ?_
          simp -implicitDefEqProofs only [go_sem]
          rw [not_any, hN, h', h1', h2']; rfl
    · rw [hN, show decide (ps.length = 0) = false by simpa using h]; rfl
  · have hH : Fm.here (.mk 2 a v ps) = (decide (ps.length = 0) && a.none && (v == [])) := rfl
    rw [hH] at hN
    have hq : isQ 2 = false := rfl
    have hb : isBi 2 = false := rfl
    simp only [fmD, fmC_eq, Fm.op, Fm.atom, Fm.var, Fm.parts]
    refine FC_of Try.call31 Try.func31 rfl (by kernel_rfl) (by simp only [rd, List.map_cons, List.map_nil, List.length_cons, List.length_nil, Try.ntmps31]; omega) ?_
    simp -implicitDefEqProofs only [go_sem, Try.results31]
    simp only [e0]
    refine ⟨fun h => ?_, fun h => ?_⟩
    · have h' : decide (ps.length = 0) = true := by simpa using h
      refine callF (isQuantifier_c 2) (by simp -implicitDefEqProofs only [go_sem, hq]) ?_
      simp -implicitDefEqProofs only [go_sem, hq]
      refine callF (isQuantifier_c 2) (by simp -implicitDefEqProofs only [go_sem, hq]) ?_
      simp -implicitDefEqProofs only [go_sem, hq]
      refine ⟨fun h1 => ?_, fun h1 => ?_⟩
      · rw [hN, show (v == []) = false by simpa using h1, Bool.and_false, Bool.false_and]
      · have h1' : (v == []) = true := by simpa using h1
        refine callF (isZeroTerm_c a) (by simp -implicitDefEqProofs only [go_sem, tmC_eq]) ?_
        simp -implicitDefEqProofs only [go_sem, tmC_eq]
        refine ⟨fun h2 => ?_, fun h2 => ?_⟩
        · rw [hN, show a.none = false by simpa using h2, Bool.and_false, Bool.false_and, Bool.false_and]
        · have h2' : a.none = true := by simpa using h2
          refine callF (containsFuncFormula_c ps (fun x => !x.forms) _ [] H1) (by simp -implicitDefEqProofs only [go_sem]) ?_
          simp -implicitDefEqProofs only [go_sem]
          rw [not_any, hN, h', h1', h2']; rfl
    · rw [hN, show decide (ps.length = 0) = false by simpa using h]; rfl
  · have hH : Fm.here (.mk 3 a v ps) = (decide (ps.length = 0) && a.atomOk && (v == [])) := rfl
    rw [hH] at hN
    have hq : isQ 3 = false := rfl
    have hb : isBi 3 = false := rfl
    simp only [fmD, fmC_eq, Fm.op, Fm.atom, Fm.var, Fm.parts]
    refine FC_of Try.call31 Try.func31 rfl (by kernel_rfl) (by simp only [rd, List.map_cons, List.map_nil, List.length_cons, List.length_nil, Try.ntmps31]; omega) ?_
    simp -implicitDefEqProofs only [go_sem, Try.results31]
    simp only [e0]
    refine ⟨fun h => ?_, fun h => ?_⟩
    · have h' : decide (ps.length = 0) = true := by simpa using h
      refine callF (isQuantifier_c 3) (by simp -implicitDefEqProofs only [go_sem, hq]) ?_
      simp -implicitDefEqProofs only [go_sem, hq]
      refine callF (isQuantifier_c 3) (by simp -implicitDefEqProofs only [go_sem, hq]) ?_
      simp -implicitDefEqProofs only [go_sem, hq]
      refine ⟨fun h1 => ?_, fun h1 => ?_⟩
      · rw [hN, show (v == []) = false by simpa using h1, Bool.and_false, Bool.false_and]
      · have h1' : (v == []) = true := by simpa using h1
        refine callF (isValidAtom_c a ha) (by simp -implicitDefEqProofs only [go_sem, tmC_eq]) ?_
        simp -implicitDefEqProofs only [go_sem, tmC_eq]
        refine And.symm ⟨fun h2 => ?_, fun h2 => ?_⟩
        · rw [hN, show a.atomOk = false by simpa using h2, Bool.and_false, Bool.false_and, Bool.false_and]
        · have h2' : a.atomOk = true := by simpa using h2
          refine callF (containsFuncFormula_c ps (fun x => !x.forms) _ [] H1) (by simp -implicitDefEqProofs only [go_sem]) ?_
          simp -implicitDefEqProofs only [go_sem]
          rw [not_any, hN, h', h1', h2']; rfl
    · rw [hN, show decide (ps.length = 0) = false by simpa using h]; rfl
  · have hH : Fm.here (.mk 4 a v ps) = (decide (ps.length = 1) && a.none && (v == [])) := rfl
    rw [hH] at hN
    have hq : isQ 4 = false := rfl
    have hb : isBi 4 = false := rfl
    simp only [fmD, fmC_eq, Fm.op, Fm.atom, Fm.var, Fm.parts]
    refine FC_of Try.call31 Try.func31 rfl (by kernel_rfl) (by simp only [rd, List.map_cons, List.map_nil, List.length_cons, List.length_nil, Try.ntmps31]; omega) ?_
    simp -implicitDefEqProofs only [go_sem, Try.results31]
    simp only [e1]
    refine ⟨fun h => ?_, fun h => ?_⟩
    · have h' : decide (ps.length = 1) = true := by simpa using h
      refine callF (isQuantifier_c 4) (by simp -implicitDefEqProofs only [go_sem, hq]) ?_
      simp -implicitDefEqProofs only [go_sem, hq]
      refine callF (isQuantifier_c 4) (by simp -implicitDefEqProofs only [go_sem, hq]) ?_
      simp -implicitDefEqProofs only [go_sem, hq]
      refine ⟨fun h1 => ?_, fun h1 => ?_⟩
      · rw [hN, show (v == []) = false by simpa using h1, Bool.and_false, Bool.false_and]
      · have h1' : (v == []) = true := by simpa using h1
        refine callF (isZeroTerm_c a) (by simp -implicitDefEqProofs only [go_sem, tmC_eq]) ?_
        simp -implicitDefEqProofs only [go_sem, tmC_eq]
        refine ⟨fun h2 => ?_, fun h2 => ?_⟩
        · rw [hN, show a.none = false by simpa using h2, Bool.and_false, Bool.false_and, Bool.false_and]
        · have h2' : a.none = true := by simpa using h2
          refine callF (containsFuncFormula_c ps (fun x => !x.forms) _ [] H1) (by simp -implicitDefEqProofs only [go_sem]) ?_
          simp -implicitDefEqProofs only [go_sem]
          rw [not_any, hN, h', h1', h2']; rfl
    · rw [hN, show decide (ps.length = 1) = false by simpa using h]; rfl
  · have hH : Fm.here (.mk 5 a v ps) = (decide (ps.length = 2) && a.none && (v == [])) := rfl
    rw [hH] at hN
    have hq : isQ 5 = false := rfl
    have hb : isBi 5 = true := rfl
    simp only [fmD, fmC_eq, Fm.op, Fm.atom, Fm.var, Fm.parts]
    refine FC_of Try.call31 Try.func31 rfl (by kernel_rfl) (by simp only [rd, List.map_cons, List.map_nil, List.length_cons, List.length_nil, Try.ntmps31]; omega) ?_
    simp -implicitDefEqProofs only [go_sem, Try.results31]
    refine callF (isQuantifier_c 5) (by simp -implicitDefEqProofs only [go_sem, hq]) ?_
    simp -implicitDefEqProofs only [go_sem, hq]
    refine callF (isBinary_c 5) (by simp -implicitDefEqProofs only [go_sem, hb]) ?_
    simp -implicitDefEqProofs only [go_sem, hb]
    simp only [e2]
    refine ⟨fun h => ?_, fun h => ?_⟩
    · have h' : decide (ps.length = 2) = true := by simpa using h
      refine callF (isQuantifier_c 5) (by simp -implicitDefEqProofs only [go_sem, hq]) ?_
      simp -implicitDefEqProofs only [go_sem, hq]
      refine callF (isQuantifier_c 5) (by simp -implicitDefEqProofs only [go_sem, hq]) ?_
      simp -implicitDefEqProofs only [go_sem, hq]
      refine ⟨fun h1 => ?_, fun h1 => ?_⟩
      · rw [hN, show (v == []) = false by simpa using h1, Bool.and_false, Bool.false_and]
      · have h1' : (v == []) = true := by simpa using h1
        refine callF (isZeroTerm_c a) (by simp -implicitDefEqProofs only [go_sem, tmC_eq]) ?_
        simp -implicitDefEqProofs only [go_sem, tmC_eq]
        refine ⟨fun h2 => ?_, fun h2 => ?_⟩
        · rw [hN, show a.none = false by simpa using h2, Bool.and_false, Bool.false_and, Bool.false_and]
        · have h2' : a.none = true := by simpa using h2
          refine callF (containsFuncFormula_c ps (fun x => !x.forms) _ [] H1) (by simp -implicitDefEqProofs only [go_sem]) ?_
          simp -implicitDefEqProofs only [go_sem]
          rw [not_any, hN, h', h1', h2']; rfl
    · rw [hN, show decide (ps.length = 2) = false by simpa using h]; rfl
  · have hH : Fm.here (.mk 6 a v ps) = (decide (ps.length = 2) && a.none && (v == [])) := rfl
    rw [hH] at hN
    have hq : isQ 6 = false := rfl
    have hb : isBi 6 = true := rfl
    simp only [fmD, fmC_eq, Fm.op, Fm.atom, Fm.var, Fm.parts]
    refine FC_of Try.call31 Try.func31 rfl (by kernel_rfl) (by simp only [rd, List.map_cons, List.map_nil, List.length_cons, List.length_nil, Try.ntmps31]; omega) ?_
    simp -implicitDefEqProofs only [go_sem, Try.results31]
    refine callF (isQuantifier_c 6) (by simp -implicitDefEqProofs only [go_sem, hq]) ?_
    simp -implicitDefEqProofs only [go_sem, hq]
    refine callF (isBinary_c 6) (by simp -implicitDefEqProofs only [go_sem, hb]) ?_
    simp -implicitDefEqProofs only [go_sem, hb]
    simp only [e2]
    refine ⟨fun h => ?_, fun h => ?_⟩
    · have h' : decide (ps.length = 2) = true := by simpa using h
      refine callF (isQuantifier_c 6) (by simp -implicitDefEqProofs only [go_sem, hq]) ?_
      simp -implicitDefEqProofs only [go_sem, hq]
      refine callF (isQuantifier_c 6) (by simp -implicitDefEqProofs only [go_sem, hq]) ?_
      simp -implicitDefEqProofs only [go_sem, hq]
      refine ⟨fun h1 => ?_, fun h1 => ?_⟩
      · rw [hN, show (v == []) = false by simpa using h1, Bool.and_false, Bool.false_and]
      · have h1' : (v == []) = true := by simpa using h1
        refine callF (isZeroTerm_c a) (by simp -implicitDefEqProofs only [go_sem, tmC_eq]) ?_
        simp -implicitDefEqProofs only [go_sem, tmC_eq]
        refine ⟨fun h2 => ?_, fun h2 => ?_⟩
        · rw [hN, show a.none = false by simpa using h2, Bool.and_false, Bool.false_and, Bool.false_and]
        · have h2' : a.none = true := by simpa using h2
          refine callF (containsFuncFormula_c ps (fun x => !x.forms) _ [] H1) (by simp -implicitDefEqProofs only [go_sem]) ?_
          simp -implicitDefEqProofs only [go_sem]
          rw [not_any, hN, h', h1', h2']; rfl
    · rw [hN, show decide (ps.length = 2) = false by simpa using h]; rfl
  · have hH : Fm.here (.mk 7 a v ps) = (decide (ps.length = 2) && a.none && (v == [])) := rfl
    rw [hH] at hN
    have hq : isQ 7 = false := rfl
    have hb : isBi 7 = true := rfl
    simp only [fmD, fmC_eq, Fm.op, Fm.atom, Fm.var, Fm.parts]
    refine FC_of Try.call31 Try.func31 rfl (by kernel_rfl) (by simp only [rd, List.map_cons, List.map_nil, List.length_cons, List.length_nil, Try.ntmps31]; omega) ?_
    simp -implicitDefEqProofs only [go_sem, Try.results31]
    refine callF (isQuantifier_c 7) (by simp -implicitDefEqProofs only [go_sem, hq]) ?_
    simp -implicitDefEqProofs only [go_sem, hq]
    refine callF (isBinary_c 7) (by simp -implicitDefEqProofs only [go_sem, hb]) ?_
    simp -implicitDefEqProofs only [go_sem, hb]
    simp only [e2]
    refine ⟨fun h => ?_, fun h => ?_⟩
    · have h' : decide (ps.length = 2) = true := by simpa using h
      refine callF (isQuantifier_c 7) (by simp -implicitDefEqProofs only [go_sem, hq]) ?_
      simp -implicitDefEqProofs only [go_sem, hq]
      refine callF (isQuantifier_c 7) (by simp -implicitDefEqProofs only [go_sem, hq]) ?_
      simp -implicitDefEqProofs only [go_sem, hq]
      refine ⟨fun h1 => ?_, fun h1 => ?_⟩
      · rw [hN, show (v == []) = false by simpa using h1, Bool.and_false, Bool.false_and]
      · have h1' : (v == []) = true := by simpa using h1
        refine callF (isZeroTerm_c a) (by simp -implicitDefEqProofs only [go_sem, tmC_eq]) ?_
        simp -implicitDefEqProofs only [go_sem, tmC_eq]
        refine ⟨fun h2 => ?_, fun h2 => ?_⟩
        · rw [hN, show a.none = false by simpa using h2, Bool.and_false, Bool.false_and, Bool.false_and]
        · have h2' : a.none = true := by simpa using h2
          refine callF (containsFuncFormula_c ps (fun x => !x.forms) _ [] H1) (by simp -implicitDefEqProofs only [go_sem]) ?_
          simp -implicitDefEqProofs only [go_sem]
          rw [not_any, hN, h', h1', h2']; rfl
    · rw [hN, show decide (ps.length = 2) = false by simpa using h]; rfl
  · have hH : Fm.here (.mk 8 a v ps) = (decide (ps.length = 1) && a.none && varOk v) := rfl
    rw [hH] at hN
    have hq : isQ 8 = true := rfl
    have hb : isBi 8 = false := rfl
    simp only [fmD, fmC_eq, Fm.op, Fm.atom, Fm.var, Fm.parts]
    refine FC_of Try.call31 Try.func31 rfl (by kernel_rfl) (by simp only [rd, List.map_cons, List.map_nil, List.length_cons, List.length_nil, Try.ntmps31]; omega) ?_
    simp -implicitDefEqProofs only [go_sem, Try.results31]
    refine callF (isQuantifier_c 8) (by simp -implicitDefEqProofs only [go_sem, hq]) ?_
    simp -implicitDefEqProofs only [go_sem, hq]
    simp only [e1]
    refine ⟨fun h => ?_, fun h => ?_⟩
    · have h' : decide (ps.length = 1) = true := by simpa using h
      refine callF (isQuantifier_c 8) (by simp -implicitDefEqProofs only [go_sem, hq]) ?_
      simp -implicitDefEqProofs only [go_sem, hq]
      refine callF (isVariable_c v) (by simp -implicitDefEqProofs only [go_sem]) ?_
      simp -implicitDefEqProofs only [go_sem]
      refine ⟨fun h1 => ?_, fun h1 => ?_⟩
      · have h1' : varOk v = true := by simpa using h1
        refine callF (isQuantifier_c 8) (by simp -implicitDefEqProofs only [go_sem, hq]) ?_
        simp -implicitDefEqProofs only [go_sem, hq]
        refine callF (isZeroTerm_c a) (by simp -implicitDefEqProofs only [go_sem, tmC_eq]) ?_
        simp -implicitDefEqProofs only [go_sem, tmC_eq]
        refine ⟨fun h2 => ?_, fun h2 => ?_⟩
        · rw [hN, show a.none = false by simpa using h2, Bool.and_false, Bool.false_and, Bool.false_and]
        · have h2' : a.none = true := by simpa using h2
          refine callF (containsFuncFormula_c ps (fun x => !x.forms) _ [] H1) (by simp -implicitDefEqProofs only [go_sem]) ?_
          simp -implicitDefEqProofs only [go_sem]
          rw [not_any, hN, h', h1', h2']; rfl
      · rw [hN, show varOk v = false by simpa using h1, Bool.and_false, Bool.false_and]
    · rw [hN, show decide (ps.length = 1) = false by simpa using h]; rfl
  · have hH : Fm.here (.mk 9 a v ps) = (decide (ps.length = 1) && a.none && varOk v) := rfl
    rw [hH] at hN
    have hq : isQ 9 = true := rfl
    have hb : isBi 9 = false := rfl
    simp only [fmD, fmC_eq, Fm.op, Fm.atom, Fm.var, Fm.parts]
    refine FC_of Try.call31 Try.func31 rfl (by kernel_rfl) (by simp only [rd, List.map_cons, List.map_nil, List.length_cons, List.length_nil, Try.ntmps31]; omega) ?_
    simp -implicitDefEqProofs only [go_sem, Try.results31]
    refine callF (isQuantifier_c 9) (by simp -implicitDefEqProofs only [go_sem, hq]) ?_
    simp -implicitDefEqProofs only [go_sem, hq]
    simp only [e1]
    refine ⟨fun h => ?_, fun h => ?_⟩
    · have h' : decide (ps.length = 1) = true := by simpa using h
      refine callF (isQuantifier_c 9) (by simp -implicitDefEqProofs only [go_sem, hq]) ?_
      simp -implicitDefEqProofs only [go_sem, hq]
      refine callF (isVariable_c v) (by simp -implicitDefEqProofs only [go_sem]) ?_
      simp -implicitDefEqProofs only [go_sem]
      refine ⟨fun h1 => ?_, fun h1 => ?_⟩
      · have h1' : varOk v = true := by simpa using h1
        refine callF (isQuantifier_c 9) (by simp -implicitDefEqProofs only [go_sem, hq]) ?_
        simp -implicitDefEqProofs only [go_sem, hq]
        refine callF (isZeroTerm_c a) (by simp -implicitDefEqProofs only [go_sem, tmC_eq]) ?_
        simp -implicitDefEqProofs only [go_sem, tmC_eq]
        refine ⟨fun h2 => ?_, fun h2 => ?_⟩
        · rw [hN, show a.none = false by simpa using h2, Bool.and_false, Bool.false_and, Bool.false_and]
        · have h2' : a.none = true := by simpa using h2
          refine callF (containsFuncFormula_c ps (fun x => !x.forms) _ [] H1) (by simp -implicitDefEqProofs only [go_sem]) ?_
          simp -implicitDefEqProofs only [go_sem]
          rw [not_any, hN, h', h1', h2']; rfl
      · rw [hN, show varOk v = false by simpa using h1, Bool.and_false, Bool.false_and]
    · rw [hN, show decide (ps.length = 1) = false by simpa using h]; rfl
  · have hH : Fm.here (.mk o a v ps) = false := by simp [Fm.here, isBi, isQ, Fm.op, *]
    rw [hH] at hN
    have f1 : (o == 1) = false := by simpa using n1
    have f2 : (o == 2) = false := by simpa using n2
    have f3 : (o == 3) = false := by simpa using n3
    have f4 : (o == 4) = false := by simpa using n4
    have hq : isQ o = false := by simp [isQ, n8, n9]
    have hb : isBi o = false := by simp [isBi, n5, n6, n7]
    simp only [fmD, fmC_eq, Fm.op, Fm.atom, Fm.var, Fm.parts]
    refine FC_of Try.call31 Try.func31 rfl (by kernel_rfl) (by simp only [rd, List.map_cons, List.map_nil, List.length_cons, List.length_nil, Try.ntmps31]; omega) ?_
    simp -implicitDefEqProofs only [go_sem, Try.results31, f1, f2, f3, f4]
    refine callF (isQuantifier_c o) (by simp -implicitDefEqProofs only [go_sem, hq]) ?_
    simp -implicitDefEqProofs only [go_sem, hq]
    refine callF (isBinary_c o) (by simp -implicitDefEqProofs only [go_sem, hb]) ?_
    simp -implicitDefEqProofs only [go_sem, hb]
    rw [hN]; rfl
theorem hasForm_c : ∀ a : Fm, a.wt ≤ 1099511627776 → FC Try.prog 31 [fmD a] [bD a.forms] :=
  fm_ind fun o a v xs ih hs => hasForm_of (.mk o a v xs) hs fun x hx => ih x hx (Nat.le_trans (fparts_wt (a := .mk o a v xs) hx) hs)
theorem isValidFormula_c (a : Fm) (hs : a.wt ≤ 1099511627776) : FC Try.prog 14 [fmD a] [bD a.good] := by
  simp only [fmD, fmC_eq]
  refine FC_of Try.call14 Try.func14 rfl (by kernel_rfl) (by simp only [rd, List.map_cons, List.map_nil, List.length_cons, List.length_nil, Try.ntmps14]; omega) ?_
  simp -implicitDefEqProofs only [go_sem, Try.results14]
  refine callF (sizeOf_c a hs) (by simp -implicitDefEqProofs only [go_sem, fmC_eq]) ?_
  simp -implicitDefEqProofs only [go_sem, fmC_eq]
  rw [sizeF_le]
  refine ⟨fun h => ?_, fun h => ?_⟩
  · refine callF (hasForm_c a hs) (by simp -implicitDefEqProofs only [go_sem, fmC_eq]) ?_
    simp -implicitDefEqProofs only [go_sem, fmC_eq]
    rw [Fm.good, h, Bool.true_and]
  · rw [Fm.good, h, Bool.false_and]
end Go.Proofs.Ytfppgpojemdijaa
/-
  Contracts of functions of the program and of its laws, over plain data.
  Conditions: those that each theorem names.
-/
namespace Go.Proofs.Ytfppgpojemdijaa
set_option linter.unusedSimpArgs false
set_option linter.unusedVariables false
set_option linter.unusedSectionVars false
set_option maxRecDepth 4000
open Go.RowKit
def sideOk (xs : List Fm) : Bool := decide (xs.length ≤ 10) && xs.all Fm.good
def Sq.good (s : Sq) : Bool := sideOk s.left && sideOk s.right
theorem side_wt {s : Sq} {x : Fm} (h : x ∈ s.left ∨ x ∈ s.right) : x.wt ≤ s.wt := by
  have := s.wt_eq
  unfold fmsW at this
  rcases h with h | h
  · have := mem_sum Fm.wt _ x h; omega
  · have := mem_sum Fm.wt _ x h; omega
end Go.Proofs.Ytfppgpojemdijaa
/-
  Simplification of formulas.
  Conditions: those that each theorem names.
-/
namespace Go.Proofs.Ytfppgpojemdijaa
set_option linter.unusedSimpArgs false
set_option linter.unusedVariables false
set_option linter.unusedSectionVars false
set_option maxRecDepth 4000
open Go.RowKit
noncomputable def simpS (o : Int) (a : Tm) (v : Str) : List Fm → Fm
  | [] => .mk o a v []
  | [x] => if (o == 4) = true then (if isC x = true then mkF (3 - x.op) [] else mkF 4 [x]) else if isC x = true then x else .mk o (.mk [] []) v [x]
  | x :: y :: _ => if (o == 5) = true then two 5 2 1 x y else if (o == 6) = true then two 6 1 2 x y else impF x y
/-- A formula without needless constants. -/
noncomputable def simpF : Fm → Fm := Fm.fold fun o a v _ rs => simpS o a v rs
theorem simpF_eq (f : Fm) : simpF f = simpS f.op f.atom f.var (f.parts.map simpF) := Fm.fold_eq _ f
theorem none_eq {a : Tm} (h : a.none = true) : a = .mk [] [] := by
  obtain ⟨n, xs⟩ := a
  simp only [Tm.none, Tm.name, Tm.args, Bool.and_eq_true, beq_iff_eq, decide_eq_true_eq, List.length_eq_zero_iff] at h
  rw [h.1, h.2]
theorem len1 {α : Type} {xs : List α} (h : xs.length = 1) : ∃ x, xs = [x] := by
  match xs, h with
  | [x], _ => exact ⟨x, rfl⟩
theorem len2 {α : Type} {xs : List α} (h : xs.length = 2) : ∃ x y, xs = [x, y] := by
  match xs, h with
  | [x, y], _ => exact ⟨x, y, rfl⟩
theorem here_mk (o : Int) (a : Tm) (v : Str) (ps : List Fm) : Fm.here (.mk o a v ps) =
    if (o == 1 || o == 2) = true then decide (ps.length = 0) && a.none && (v == [])
    else if (o == 3) = true then decide (ps.length = 0) && a.atomOk && (v == [])
    else if (o == 4) = true then decide (ps.length = 1) && a.none && (v == [])
    else if (o == 5 || o == 6 || o == 7) = true then decide (ps.length = 2) && a.none && (v == [])
    else if (o == 8 || o == 9) = true then decide (ps.length = 1) && a.none && varOk v
    else false := rfl
/-- The forms of formulas. -/
theorem forms_cases {f : Fm} (h : f.forms = true) :
    (f.parts = [] ∧ (f.op = 1 ∨ f.op = 2 ∨ f.op = 3)) ∨ (∃ p : Fm, f = mkF 4 [p] ∧ p.forms = true) ∨ (∃ (o : Int) (p q : Fm), (o = 5 ∨ o = 6 ∨ o = 7) ∧ f = mkF o [p, q] ∧ p.forms = true ∧ q.forms = true) ∨
      ∃ (o : Int) (v : Str) (p : Fm), (o = 8 ∨ o = 9) ∧ f = .mk o (.mk [] []) v [p] ∧ p.forms = true := by
  rw [Fm.forms_eq, Bool.and_eq_true] at h
  obtain ⟨h1, h2⟩ := h
  obtain ⟨o, a, v, ps⟩ := f
  rw [here_mk] at h1
  simp only [Fm.op, Fm.parts] at h2 ⊢
  by_cases h12 : (o == 1 || o == 2) = true
  · rw [if_pos h12] at h1
    simp only [Bool.or_eq_true, beq_iff_eq, Bool.and_eq_true, decide_eq_true_eq, List.length_eq_zero_iff] at h12 h1
    exact Or.inl ⟨h1.1.1, by omega⟩
  rw [if_neg h12] at h1
  by_cases h3 : (o == 3) = true
  · rw [if_pos h3] at h1
    simp only [beq_iff_eq, Bool.and_eq_true, decide_eq_true_eq, List.length_eq_zero_iff] at h3 h1
    exact Or.inl ⟨h1.1.1, by omega⟩
  rw [if_neg h3] at h1
  by_cases h4 : (o == 4) = true
  · rw [if_pos h4] at h1
    simp only [beq_iff_eq, Bool.and_eq_true, decide_eq_true_eq] at h4 h1
    obtain ⟨⟨h5, h6⟩, h7⟩ := h1
    obtain ⟨x, rfl⟩ := len1 h5
    rw [h4, none_eq h6, h7]
    exact Or.inr (Or.inl ⟨x, rfl, by simpa using h2⟩)
  rw [if_neg h4] at h1
  by_cases h5 : (o == 5 || o == 6 || o == 7) = true
  · rw [if_pos h5] at h1
    simp only [Bool.or_eq_true, beq_iff_eq, Bool.and_eq_true, decide_eq_true_eq] at h5 h1
    obtain ⟨⟨h6, h7⟩, h8⟩ := h1
    obtain ⟨x, y, rfl⟩ := len2 h6
    rw [none_eq h7, h8]
    simp only [List.all_cons, List.all_nil, Bool.and_true, Bool.and_eq_true] at h2
    exact Or.inr (Or.inr (Or.inl ⟨o, x, y, by omega, rfl, h2.1, h2.2⟩))
  rw [if_neg h5] at h1
  by_cases h6 : (o == 8 || o == 9) = true
  · rw [if_pos h6] at h1
    simp only [Bool.or_eq_true, beq_iff_eq, Bool.and_eq_true, decide_eq_true_eq] at h6 h1
    obtain ⟨⟨h7, h8⟩, h9⟩ := h1
    obtain ⟨x, rfl⟩ := len1 h7
    rw [none_eq h8]
    exact Or.inr (Or.inr (Or.inr ⟨o, v, x, by omega, rfl, by simpa using h2⟩))
  · rw [if_neg h6] at h1; cases h1
theorem mkF_parts (o : Int) (ps : List Fm) : (mkF o ps).parts = ps := rfl
end Go.Proofs.Ytfppgpojemdijaa
/-
  Herbrand formulas: the program's test and the reference's.
  Conditions: those that each theorem names.
-/
namespace Go.Proofs.Ytfppgpojemdijaa
set_option linter.unusedSimpArgs false
set_option linter.unusedVariables false
set_option linter.unusedSectionVars false
set_option maxRecDepth 4000
open Go.RowKit Go.Sort
/-- The library's Compact of strings. -/
theorem compact_GC {P : Program} {f : FuncId} (hc : Callable P f) (hS : ∀ (blk off cap : Nat) (zs : List (List UInt8)) (w : World), Holds encStr w blk off zs.toArray → zs.length ≤ 9223372036854775807 → zs.length ≤ cap →
      Calls P f #[.slice (some ⟨blk, off, none⟩) zs.length cap] w fun e w' => e = .returned (.slice (some ⟨blk, off, none⟩) (Lib.compact zs).length cap) ∧ ∃ q, w' = putRow encStr (Sort.ahead w q) blk off (Lib.compact zs ++ List.replicate (zs.length - (Lib.compact zs).length) []).toArray)
    (hN : ∀ (a : Option Addr) (cap : Nat) (w : World), Calls P f #[.slice a 0 cap] w fun e w' => e = .returned (.slice a 0 cap) ∧ w' = w) (hsub : ∀ zs : List (List UInt8), (Lib.compact zs).length ≤ zs.length ∧ ∀ s ∈ Lib.compact zs, s ∈ zs) (ss : List Str) : GC P f [(true, .one (strS ss))] [.one (strS (Lib.compact ss))] := by
  refine ⟨hc, fun w vs fp tp hv hn => ?_⟩
  obtain ⟨v, _, f1, _, t1, _, rfl, rfl, rfl, ⟨hg, _⟩, hv⟩ := hv
  obtain ⟨rfl, rfl, rfl⟩ := hv
  unfold OwnV at hg
  obtain ⟨ao, cap, rfl, q1, q2, q3⟩ := hg
  rw [List.length_map] at q1 ⊢
  rcases q3 with ⟨rfl, rfl, q3, rfl⟩ | ⟨b, cells, ty, fps, rfl, rfl, q3, q4, q5⟩
  · have hs : ss = [] := List.map_eq_nil_iff.1 q3
    subst hs
    refine (hN none 0 w).mono ?_
    rintro e w' ⟨rfl, rfl⟩
    refine ⟨[_], [], [], rfl, ⟨_, [], [], [], [], [], rfl, rfl, rfl, ⟨?_, rfl⟩, rfl, rfl, rfl⟩, List.nodup_nil, by simp, Bk.refl _ _⟩
    unfold OwnV
    exact ⟨none, 0, rfl, by simp [Lib.compact, Lib.compactUpTo], by simp, Or.inl ⟨rfl, rfl, by simp [Lib.compact, Lib.compactUpTo], rfl⟩⟩
  · obtain ⟨_, vs, k1, k2, k3⟩ := q5.vals
    rw [strs_flat] at k3
    obtain ⟨rfl, rfl, k4⟩ := own_strs k3
    have hsz : ss.length ≤ cells.size := by omega
    have ht : cells.toList.take ss.length = ss.map encStr := by
      apply List.ext_getElem?
      intro j
      by_cases hj : j < ss.length
      · rw [List.getElem?_take_of_lt hj, Array.getElem?_toList]
        have := k2 j _ (List.getElem?_eq_getElem (by simpa using hj))
        rw [Nat.zero_add] at this
        rw [this, List.getElem?_eq_getElem (by simpa using hj)]
      · rw [List.getElem?_take_eq_none (by omega), List.getElem?_eq_none (by simp; omega)]
    have hM : (9223372036854775807 : Nat) = maxI := rfl
    refine (hS b 0 cap ss w (holds_of_block q3 ht) (by omega) q1).mono ?_
    rintro e w' ⟨rfl, q, rfl⟩
    obtain ⟨hsl, hsm⟩ := hsub ss
    have hw : putRow encStr (Sort.ahead w q) b 0 (Lib.compact ss ++ List.replicate (ss.length - (Lib.compact ss).length) []).toArray = grow (putRow encStr (Sort.ahead w q) b 0 (Lib.compact ss ++ List.replicate (ss.length - (Lib.compact ss).length) []).toArray) #[] := by unfold grow; simp only [Array.append_empty]
    rw [hw]
    have hgr := grownBy_sorted (w := w) (g := b) (n := q) (os := #[]) (Lib.compact ss ++ List.replicate (ss.length - (Lib.compact ss).length) []).toArray
    have hlen : (Lib.compact ss ++ List.replicate (ss.length - (Lib.compact ss).length) ([] : Str)).length = ss.length := by simp; omega
    have htk := take_putCells cells (Lib.compact ss ++ List.replicate (ss.length - (Lib.compact ss).length) []) (by omega)
    refine ⟨[_], [b], [b], rfl, ⟨_, [], [b], [], [b], [], rfl, rfl, rfl, ⟨?_, rfl⟩, rfl, rfl, rfl⟩, by simp, fun x hx => Or.inl (by simpa using hx), ⟨hgr.os, hgr.tape, hgr.output, hgr.size, fun k hk => hgr.block k hk.1 fun e => hk.2 (by cases e; simp)⟩⟩
    unfold OwnV
    refine ⟨_, cap, by rw [List.length_map], by rw [List.length_map]; omega, q2, Or.inr ⟨b, _, ty, [], rfl, rfl, heap_sorted _ q3, by simp [putCells, q4], ?_⟩⟩
    refine OwnRows.of_vals (strs_lens _) (by rw [strs_flat]; exact strs_own fun s hs => k4 s (hsm s hs)) fun j u hu => ?_
    have hu' : ((Lib.compact ss ++ List.replicate (ss.length - (Lib.compact ss).length) ([] : Str)).map encStr)[j]? = some u := by
      rw [List.map_append]
      have hj : j < ((Lib.compact ss).map encStr).length := (List.getElem?_eq_some_iff.1 hu).1
      rw [List.getElem?_append_left hj]; exact hu
    rw [← htk, List.getElem?_take] at hu'
    split at hu'
    · simpa using hu'
    · cases hu'
theorem compact_sub (zs : List (List UInt8)) : (Lib.compact zs).length ≤ zs.length ∧ ∀ s ∈ Lib.compact zs, s ∈ zs := by
  unfold Lib.compact Lib.compactUpTo
  refine ⟨?_, fun s hs => ?_⟩
  · rw [List.length_map]
    have := List.length_filter_le (Lib.keeps zs.toArray) (List.range zs.length)
    simpa using this
  · obtain ⟨i, hi, rfl⟩ := List.mem_map.1 hs
    have hi : i < zs.length := by simpa using List.mem_range.1 (List.mem_filter.1 hi).1
    simp [hi]
theorem compactStr_c (ss : List Str) : GC Try.prog 18 [(true, .one (strS ss))] [.one (strS (Lib.compact ss))] :=
  compact_GC Try.call18 (fun blk off cap zs w h1 h2 h3 => Any.slices_Compact_string Try.lays194 blk off cap zs w h1 h2 h3) (fun a cap w => Any.slices_Compact_string_empty Try.lays194 a cap w) compact_sub ss
end Go.Proofs.Ytfppgpojemdijaa
/-
  The existential prefix of a formula; formulas without quantifiers.
  Conditions: those that each theorem names.
-/
namespace Go.Proofs.Ytfppgpojemdijaa
set_option linter.unusedSimpArgs false
set_option linter.unusedVariables false
set_option linter.unusedSectionVars false
set_option maxRecDepth 4000
open Go.RowKit
theorem part_nodes {f : Fm} {x : Fm} (h : x ∈ f.parts) : x.nodes < f.nodes := by
  have := f.nodes_eq
  obtain ⟨i, hi, rfl⟩ := List.getElem_of_mem h
  have := mem_sum Fm.nodes f.parts _ (List.getElem_mem hi)
  omega
/-- The existential prefix and what stands behind it. -/
def exN (f : Fm) : List Str × Fm := if h : f.op = 9 ∧ 0 < f.parts.length then (f.var :: (exN (f.parts[0]'h.2)).1, (exN (f.parts[0]'h.2)).2) else ([], f)
termination_by f.nodes
decreasing_by all_goals exact part_nodes (List.getElem_mem h.2)
theorem exN_no {f : Fm} (h : (f.op == 9) = false) : exN f = ([], f) := by rw [exN, dif_neg]; rintro ⟨h1, _⟩; rw [h1] at h; exact absurd h (by decide)
theorem ex_parts {f : Fm} (h : (f.op == 9) = true) (hf : f.forms = true) : ∃ p, f.parts = [p] ∧ p.forms = true := by
  rw [Fm.forms_eq, Bool.and_eq_true] at hf
  have h9 : f.op = 9 := by simpa using h
  have h1 := hf.1
  unfold Fm.here at h1
  rw [h9] at h1
  simp only [show ((9 : Int) == 1 || (9 : Int) == 2) = false by decide, show ((9 : Int) == 3) = false by decide, show ((9 : Int) == 4) = false by decide, show isBi 9 = false by decide, show isQ 9 = true by decide, if_true, Bool.false_eq_true, if_false, Bool.and_eq_true, decide_eq_true_eq] at h1
  obtain ⟨p, hp⟩ := List.length_eq_one_iff.1 h1.1.1
  exact ⟨p, hp, List.all_eq_true.1 hf.2 p (by rw [hp]; simp)⟩
theorem exN_yes {f p : Fm} (h : (f.op == 9) = true) (hp : f.parts = [p]) : exN f = (f.var :: (exN p).1, (exN p).2) := by
  have h9 : f.op = 9 := by simpa using h
  have hl : 0 < f.parts.length := by rw [hp]; simp
  rw [exN, dif_pos ⟨h9, hl⟩]
  have : f.parts[0]'hl = p := by simp [hp]
  rw [this]
theorem exN_len : ∀ f : Fm, (exN f).1.length ≤ f.nodes := fm_ind fun o a v ps ih => by
  by_cases h : ((Fm.mk o a v ps).op = 9 ∧ 0 < (Fm.mk o a v ps).parts.length)
  · rw [exN, dif_pos h]
    have hm := List.getElem_mem h.2
    have h1 := ih _ hm
    have h2 := part_nodes hm
    simp only [List.length_cons]
    omega
  · rw [exN, dif_neg h]; exact Nat.zero_le _
theorem exN_wt : ∀ f : Fm, (exN f).2.wt ≤ f.wt := fm_ind fun o a v ps ih => by
  by_cases h : ((Fm.mk o a v ps).op = 9 ∧ 0 < (Fm.mk o a v ps).parts.length)
  · rw [exN, dif_pos h]
    have hm := List.getElem_mem h.2
    exact Nat.le_trans (ih _ hm) (fparts_wt hm)
  · rw [exN, dif_neg h]; exact Nat.le_refl _
theorem exN_forms : ∀ f : Fm, f.forms = true → (exN f).2.forms = true := fm_ind fun o a v ps ih hf => by
  by_cases h : ((Fm.mk o a v ps).op = 9 ∧ 0 < (Fm.mk o a v ps).parts.length)
  · rw [exN, dif_pos h]
    have hm := List.getElem_mem h.2
    rw [Fm.forms_eq, Bool.and_eq_true] at hf
    exact ih _ hm (List.all_eq_true.1 hf.2 _ hm)
  · rw [exN, dif_neg h]; exact hf
theorem prefix_c (f : Fm) (hf : f.forms = true) (hw : f.wt ≤ 1048576) : XC Try.prog 16 [(false, fmD f)] [(true, .one (strS (exN f).1)), (false, fmD (exN f).2)] := by
  have hN := fnodes_wt f
  have hL := exN_len f
  simp only [fmD, fmC_eq]
  refine XC_of Try.call16 Try.func16 rfl (by kernel_rfl) (by simp only [List.length_cons, List.length_nil, Try.ntmps16]; omega) (by simp [smallG, T.isPin]) ?_
  simp -implicitDefEqProofs only [go_sem, Try.results16]
  refine buildDc (by simp -implicitDefEqProofs only [go_sem]) ?_
  simp -implicitDefEqProofs only [go_sem]
  refine loop_rule (fun x : List Str × Fm => hd [(1, .one (.bx 1 0)), (3, .one (.bx 3 0)), (4, .one (.ow 160 0))] [(1, [.t (.int .i64 x.2.op), .t (.str x.2.atom.name), .rn (tmS x.2.atom.args), .t (.str x.2.var), .rn (fmS x.2.parts)]), (3, [.any, .any, .any, .any, .any])] [(160, ⟨true, 1, x.1.map fun s => [.str s], 0, true⟩)]) (fun x => x.2.forms = true ∧ x.1 ++ (exN x.2).1 = (exN f).1 ∧ (exN x.2).2 = (exN f).2) (fun x => x.2.nodes) ([], f) (weak_hd ?_) ⟨hf, rfl, rfl⟩ ?_
  · simp -implicitDefEqProofs only [go_sem]
  · rintro ⟨ns, g⟩ ⟨h1, h2, h3⟩
    simp only at h1 h2 h3
    have hG := exN_len g
    cases h9 : g.op == 9
    · rw [exN_no h9] at h2 h3
      rw [List.append_nil] at h2
      simp only at h2 h3
      subst h2 h3
      simp -implicitDefEqProofs only [go_sem, h9]
      refine drawn (by kernel_rfl) ?_
      simp -implicitDefEqProofs only [go_sem]
      kernel_rfl
    · obtain ⟨p, hp, hpf⟩ := ex_parts h9 h1
      rw [exN_yes h9 hp] at h2 h3
      have hl : ns.length ≤ 4294967295 := by
        have := congrArg List.length h2
        simp only [List.length_append, List.length_cons] at this
        omega
      have hp0 : g.parts.length = 1 := by rw [hp]; rfl
      simp -implicitDefEqProofs only [go_sem, h9]
      refine buildDc (by simp -implicitDefEqProofs only [go_sem]) ?_
      simp -implicitDefEqProofs only [go_sem]
      refine apD true (by simp -implicitDefEqProofs only [go_sem, hl, ne_eq, List.length_map]) ?_
      simp -implicitDefEqProofs only [go_sem, hl, ne_eq, List.length_map]
      have e0 : (List.map fmC g.parts).getD 0 [] = fmC p := by rw [hp]; rfl
      simp -implicitDefEqProofs only [go_sem, hp0, e0, fmC_eq p]
      refine ⟨(ns ++ [g.var], p), ⟨hpf, by rw [List.append_assoc]; exact h2, h3⟩, part_nodes (by rw [hp]; simp), weak_hd ?_⟩
      simp -implicitDefEqProofs only [go_sem]
      simp
theorem l16Open_c (f : Fm) (hf : f.forms = true) (hw : f.wt ≤ 1048576) : XC Try.prog 26 [(false, fmD f)] [(true, .one (strS (exN f).1)), (false, fmD (exN f).2)] := by
  have hN := fnodes_wt f
  have hL := exN_len f
  simp only [fmD, fmC_eq]
  refine XC_of Try.call26 Try.func26 rfl (by kernel_rfl) (by simp only [List.length_cons, List.length_nil, Try.ntmps26]; omega) (by simp [smallG, T.isPin]) ?_
  simp -implicitDefEqProofs only [go_sem, Try.results26]
  refine buildDc (by simp -implicitDefEqProofs only [go_sem]) ?_
  simp -implicitDefEqProofs only [go_sem]
  refine loop_rule (fun x : List Str × Fm => hd [(1, .one (.bx 1 0)), (3, .one (.bx 3 0)), (4, .one (.ow 160 0))] [(1, [.t (.int .i64 x.2.op), .t (.str x.2.atom.name), .rn (tmS x.2.atom.args), .t (.str x.2.var), .rn (fmS x.2.parts)]), (3, [.any, .any, .any, .any, .any])] [(160, ⟨true, 1, x.1.map fun s => [.str s], 0, true⟩)]) (fun x => x.2.forms = true ∧ x.1 ++ (exN x.2).1 = (exN f).1 ∧ (exN x.2).2 = (exN f).2) (fun x => x.2.nodes) ([], f) (weak_hd ?_) ⟨hf, rfl, rfl⟩ ?_
  · simp -implicitDefEqProofs only [go_sem]
  · rintro ⟨ns, g⟩ ⟨h1, h2, h3⟩
    simp only at h1 h2 h3
    have hG := exN_len g
    cases h9 : g.op == 9
    · rw [exN_no h9] at h2 h3
      rw [List.append_nil] at h2
      simp only at h2 h3
      subst h2 h3
      simp -implicitDefEqProofs only [go_sem, h9]
      refine drawn (by kernel_rfl) ?_
      simp -implicitDefEqProofs only [go_sem]
      kernel_rfl
    · obtain ⟨p, hp, hpf⟩ := ex_parts h9 h1
      rw [exN_yes h9 hp] at h2 h3
      have hl : ns.length ≤ 4294967295 := by
        have := congrArg List.length h2
        simp only [List.length_append, List.length_cons] at this
        omega
      have hp0 : g.parts.length = 1 := by rw [hp]; rfl
      simp -implicitDefEqProofs only [go_sem, h9]
      refine buildDc (by simp -implicitDefEqProofs only [go_sem]) ?_
      simp -implicitDefEqProofs only [go_sem]
      refine apD true (by simp -implicitDefEqProofs only [go_sem, hl, ne_eq, List.length_map]) ?_
      simp -implicitDefEqProofs only [go_sem, hl, ne_eq, List.length_map]
      have e0 : (List.map fmC g.parts).getD 0 [] = fmC p := by rw [hp]; rfl
      simp -implicitDefEqProofs only [go_sem, hp0, e0, fmC_eq p]
      refine ⟨(ns ++ [g.var], p), ⟨hpf, by rw [List.append_assoc]; exact h2, h3⟩, part_nodes (by rw [hp]; simp), weak_hd ?_⟩
      simp -implicitDefEqProofs only [go_sem]
      simp
/-- A formula without quantifiers. -/
def plainF : Fm → Bool := Fm.fold fun o _ _ _ rs => !(o == 8 || o == 9) && rs.all id
theorem plainF_eq (f : Fm) : plainF f = (!(f.op == 8 || f.op == 9) && f.parts.all plainF) := by
  unfold plainF
  rw [Fm.fold_eq]
  simp only [List.all_map]
  rfl
theorem hasOp1_of (f : Fm) (H : FC Try.prog 20 [fmD f, .one (intS [8, 9])] [bD (!plainF f)]) : FC Try.prog 37 [fmD f, .one (.ptr [intS [8, 9]])] [bD (!plainF f)] := by
  simp only [fmD, fmC_eq] at H ⊢
  refine FC_of Try.call37 Try.func37 rfl (by kernel_rfl) (by simp only [rd, List.map_cons, List.map_nil, List.length_cons, List.length_nil, Try.ntmps37]; omega) ?_
  simp -implicitDefEqProofs only [go_sem, Try.results37]
  refine callF (H) (by simp -implicitDefEqProofs only [go_sem]) ?_
  simp -implicitDefEqProofs only [go_sem]
theorem hasOp_of (f : Fm) (H : ∀ x ∈ f.parts, FC Try.prog 20 [fmD x, .one (intS [8, 9])] [bD (!plainF x)]) : FC Try.prog 20 [fmD f, .one (intS [8, 9])] [bD (!plainF f)] := by
  have HC := containsFuncFormula_c f.parts (fun x => !plainF x) 37 [.ptr [intS [8, 9]]] fun x hx => hasOp1_of x (H x hx)
  have h9 : ([8, 9] : List Int).contains f.op = (f.op == 8 || f.op == 9) := by simp only [List.contains, List.elem]; cases h : f.op == 8 <;> cases h2 : f.op == 9 <;> rfl
  have hv := plainF_eq f
  simp only [fmD, fmC_eq]
  refine FC_of Try.call20 Try.func20 rfl (by kernel_rfl) (by simp only [rd, List.map_cons, List.map_nil, List.length_cons, List.length_nil, Try.ntmps20]; omega) ?_
  simp -implicitDefEqProofs only [go_sem, Try.results20]
  refine callF (containsInt_c [8, 9] f.op) (by simp -implicitDefEqProofs only [go_sem, h9]) ?_
  simp -implicitDefEqProofs only [go_sem, h9]
  refine ⟨fun h => ?_, fun h => ?_⟩
  · refine callF (HC) (by simp -implicitDefEqProofs only [go_sem]) ?_
    simp -implicitDefEqProofs only [go_sem]
    rw [hv, h]
    simp [List.any_eq_not_all_not]
  · rw [hv, h]; rfl
theorem hasOp_c : ∀ f : Fm, FC Try.prog 20 [fmD f, .one (intS [8, 9])] [bD (!plainF f)] := fm_ind fun o a v ps ih => hasOp_of (.mk o a v ps) ih
theorem l16Plain_of (f : Fm) (hw : f.wt ≤ 1048576) (H : ∀ x ∈ f.parts, FC Try.prog 28 [fmD x] [bD (plainF x)]) : FC Try.prog 28 [fmD f] [bD (plainF f)] := by
  have hv := plainF_eq f
  have hW := f.wt_eq
  simp only [fmD, fmC_eq]
  refine FC_of Try.call28 Try.func28 rfl (by kernel_rfl) (by simp only [rd, List.map_cons, List.map_nil, List.length_cons, List.length_nil, Try.ntmps28]; omega) ?_
  simp -implicitDefEqProofs only [go_sem, Try.results28]
  cases h8 : f.op == 8
  · cases h9 : f.op == 9
    · rw [h8, h9] at hv
      simp only [Bool.or_self, Bool.not_false, Bool.true_and] at hv
      simp -implicitDefEqProofs only [go_sem, h8, h9]
      refine loop_rule (fun k : Nat => hd [(1, .one (.bx 1 0)), (3, vI k)] [(1, [.t (.int .i64 f.op), .t (.str f.atom.name), .t (tmS f.atom.args), .t (.str f.var), .t (fmS f.parts)])] []) (fun k => k ≤ f.parts.length ∧ (f.parts.take k).all plainF = true) (fun k => f.parts.length - k) 0 (weak_hd ?_) ⟨Nat.zero_le _, rfl⟩ ?_
      · simp -implicitDefEqProofs only [go_sem]
      · rintro k ⟨hk, hT⟩
        by_cases hlt : k < f.parts.length
        · have HC := H f.parts[k] (List.getElem_mem hlt)
          simp only [fmD, fmC_eq f.parts[k]] at HC
          simp -implicitDefEqProofs only [go_sem, getD_at, hlt, fmC_eq f.parts[k]]
          refine callF (HC) (by simp -implicitDefEqProofs only [go_sem]) ?_
          simp -implicitDefEqProofs only [go_sem]
          refine ⟨fun h => ?_, fun h => ?_⟩
          · have hn : f.parts.all plainF = false := by
              rw [List.all_eq_false]
              exact ⟨_, List.getElem_mem hlt, by simpa using h⟩
            rw [hv, hn]
          · refine ⟨k + 1, ⟨hlt, ?_⟩, by omega, weak_hd ?_⟩
            · rw [List.take_succ_eq_append_getElem hlt, List.all_append, hT]
              simpa using h
            · simp -implicitDefEqProofs only [go_sem]
              rw [wrap_s (by omega)]
        · simp -implicitDefEqProofs only [go_sem, hlt]
          rw [List.take_of_length_le (by omega)] at hT
          rw [hv, hT]
    · simp -implicitDefEqProofs only [go_sem, h8, h9]
      rw [hv, h8, h9]; rfl
  · simp -implicitDefEqProofs only [go_sem, h8]
    rw [hv, h8]; rfl
theorem l16Plain_c : ∀ f : Fm, f.wt ≤ 1048576 → FC Try.prog 28 [fmD f] [bD (plainF f)] := fm_ind fun o a v ps ih hw => l16Plain_of (.mk o a v ps) hw fun x hx => ih x hx (Nat.le_trans (fparts_wt (a := .mk o a v ps) hx) hw)
end Go.Proofs.Ytfppgpojemdijaa
/-
  Contracts of functions of the program and of its laws, over plain data.
  Conditions: those that each theorem names.
-/
namespace Go.Proofs.Ytfppgpojemdijaa
set_option linter.unusedSimpArgs false
set_option linter.unusedVariables false
set_option linter.unusedSectionVars false
set_option maxRecDepth 4000
open Go.RowKit

set_option maxHeartbeats 400000 in
theorem szTermS_of (xs : List Tm) (H : ∀ x ∈ xs, ∀ l : Int, 0 ≤ l → l ≤ 1048576 → FC Try.prog 9 [tmD x, iD l] [iD (szR x.wt l)]) (l : Int) (h0 : 0 ≤ l) (h1 : l ≤ 1048576) :
    FC Try.prog 23 [.one (tmS xs), iD l] [iD (szR (tmsW xs) l)] := by
  refine FC_wf (fun hw => ?_) Try.call23
  have hl : xs.length ≤ 9223372036854775807 := by simpa [wfDs, wfT] using hw.1.1
  refine FC_of Try.call23 Try.func23 rfl (by kernel_rfl) (by simp only [rd, List.map_cons, List.map_nil, List.length_cons, List.length_nil, Try.ntmps23]; omega) ?_
  simp -implicitDefEqProofs only [go_sem, Try.results23]
  rw [wrap_in (by omega) (by omega)]
  have hW : tmsW xs = xs.length + (xs.map Tm.wt).sum := rfl
  refine ⟨fun h => ?_, fun h => ?_⟩
  · rw [szR_big (by simp at h; omega)]
  · have hlen : (xs.length : Int) ≤ l := by simp at h; omega
    refine loop_rule (fun k : Nat => hd [(0, vT (tmS xs)), (1, vI (l - xs.length - psum Tm.wt xs k)), (5, vI k)] [] []) (fun k => k ≤ xs.length ∧ 0 ≤ l - xs.length - psum Tm.wt xs k) (fun k => xs.length - k) 0 (weak_hd ?_) ?_ ?_
    · simp -implicitDefEqProofs only [go_sem]
      simp [psum_zero]
    · simpa [psum_zero] using hlen
    · intro k ⟨hk, hp⟩
      by_cases hlt : k < xs.length
      · have hs := psum_succ Tm.wt xs k hlt
        have hs2 := psum_le Tm.wt xs (k + 1)
        simp -implicitDefEqProofs only [go_sem, List.length_map, getD_at, hlt, tmC_eq]
        refine callF (H xs[k] (List.getElem_mem hlt) (l - xs.length - psum Tm.wt xs k) hp (by omega)) (by simp -implicitDefEqProofs only [go_sem, tmC_eq]) ?_
        simp -implicitDefEqProofs only [go_sem, tmC_eq]
        refine ⟨fun h => ?_, fun h => ?_⟩
        · have := szR_neg hp (by simpa using h)
          rw [szR_big (by omega)]
        · obtain ⟨h2, h3⟩ := szR_pos (by simpa using h)
          rw [wrap_s (by omega)]
          exact ⟨k + 1, ⟨hlt, by omega⟩, by omega, weak_hd (by simp -implicitDefEqProofs only [go_sem]; rw [h3]; congr 1; omega)⟩
      · simp -implicitDefEqProofs only [go_sem, List.length_map, hlt]
        have hall := psum_all Tm.wt xs k (by omega)
        rw [hall, szR_ok (by omega)]; congr 1; omega

set_option maxHeartbeats 400000 in
theorem toTermS_of (xs : List Tm) (H : ∀ x ∈ xs, FC Try.prog 12 [tmD x] [tmD x]) (hs : xs.length ≤ 1048576) :
    FC Try.prog 29 [.one (tmS xs)] [.one (tmS xs)] := by
  refine FC_wf (fun hw => ?_) Try.call29
  refine FC_of Try.call29 Try.func29 rfl (by kernel_rfl) (by simp only [rd, List.map_cons, List.map_nil, List.length_cons, List.length_nil, Try.ntmps29]; omega) ?_
  simp -implicitDefEqProofs only [go_sem, Try.results29]
  refine makeD (by simp -implicitDefEqProofs only [go_sem]; omega) ?_
  simp -implicitDefEqProofs only [go_sem]
  refine loop_rule (fun k : Nat => hd [(0, vT (tmS xs)), (3, .one (.ow 224 0)), (4, vI k)] [] [(224, ⟨true, 2, (xs.take k).map tmC ++ List.replicate (xs.length - k) [T.str [], T.sl 2 []], 0, true⟩)]) (fun k => k ≤ xs.length) (fun k => xs.length - k) 0 (weak_hd ?_) ?_ ?_
  · simp -implicitDefEqProofs only [go_sem]
    simp
  · simp
  · intro k hk
    by_cases hlt : k < xs.length
    · have hlen : ((xs.take k).map tmC ++ List.replicate (xs.length - k) [T.str [], T.sl 2 []]).length = xs.length := by simp; omega
      have hlt2 : k < k + (xs.length - k) := by omega
      simp -implicitDefEqProofs only [go_sem, List.length_map, getD_at, hlt, tmC_eq]
      refine callF (H xs[k] (List.getElem_mem hlt)) (by simp -implicitDefEqProofs only [go_sem, tmC_eq, hlen, hlt, List.length_append, List.length_map, List.length_take, List.length_replicate, Nat.min_eq_left hk, hlt2]) ?_
      simp -implicitDefEqProofs only [go_sem, tmC_eq, hlen, hlt, List.length_append, List.length_map, List.length_take, List.length_replicate, Nat.min_eq_left hk, hlt2]
      refine storeD (by simp -implicitDefEqProofs only [go_sem]; simp) ?_
      simp -implicitDefEqProofs only [go_sem]
      rw [wrap_s (by omega)]
      refine ⟨k + 1, by omega, by omega, weak_hd ?_⟩
      simp -implicitDefEqProofs only [go_sem]
      have hf := fill_next ((xs.take k).map tmC) xs.length k [T.str [], T.sl 2 []] (tmC xs[k]) (by simp; omega) hlt (by simp [tmC_eq])
      simp only [tmC_eq] at hf
      rw [hf, List.take_succ_eq_append_getElem hlt, List.map_append, List.map_singleton]
      simp only [tmC_eq]
    · simp -implicitDefEqProofs only [go_sem, List.length_map, hlt]
      simp [List.take_of_length_le (show xs.length ≤ k by omega), show xs.length - k = 0 by omega]

set_option maxHeartbeats 400000 in
theorem eqTermS_of (xs ys : List Tm) (H : ∀ x ∈ xs, ∀ y, FC Try.prog 21 [tmD x, tmD y] [bD (same x y)]) :
    FC Try.prog 38 [.one (tmS xs), .one (tmS ys)] [bD (same xs ys)] := by
  refine FC_wf (fun hw => ?_) Try.call38
  have hl : xs.length ≤ 9223372036854775807 := by simpa [wfDs, wfT] using hw.1.1
  have hl2 : ys.length ≤ 9223372036854775807 := by simpa [wfDs, wfT] using hw.2.1.1
  refine FC_of Try.call38 Try.func38 rfl (by kernel_rfl) (by simp only [rd, List.map_cons, List.map_nil, List.length_cons, List.length_nil, Try.ntmps38]; omega) ?_
  simp -implicitDefEqProofs only [go_sem, Try.results38]
  refine ⟨fun h => ?_, fun h => ?_⟩
  · rw [same_no.2 (by rintro rfl; simp at h)]
  · have hlen : xs.length = ys.length := by simp at h; omega
    refine loop_rule (fun k : Nat => hd [(0, vT (tmS xs)), (1, vT (tmS ys)), (4, vB false), (5, vI k)] [] []) (fun k => k ≤ xs.length ∧ same xs ys = same (xs.drop k) (ys.drop k)) (fun k => xs.length - k) 0 (weak_hd ?_) ?_ ?_
    · simp -implicitDefEqProofs only [go_sem]
    · simp
    · intro k ⟨hk, hr⟩
      by_cases hlt : k < xs.length
      · have hk2 : k < ys.length := by omega
        simp -implicitDefEqProofs only [go_sem, List.length_map, hlt]
        refine drawn (by kernel_rfl) ?_
        simp -implicitDefEqProofs only [go_sem, List.length_map, getD_at, hlt, hk2, tmC_eq]
        refine dCallF (H xs[k] (List.getElem_mem hlt) ys[k]) (by simp -implicitDefEqProofs only [go_sem, tmC_eq]) ?_
        simp -implicitDefEqProofs only [go_sem, tmC_eq]
        refine ⟨by kernel_rfl, fun h => ?_, fun h => ?_⟩
        · rw [hr, List.drop_eq_getElem_cons hlt, List.drop_eq_getElem_cons hk2, same_cons, show same xs[k] ys[k] = false by simpa using h]; rfl
        · rw [List.drop_eq_getElem_cons hlt, List.drop_eq_getElem_cons hk2, same_cons, show same xs[k] ys[k] = true by simpa using h, Bool.true_and] at hr
          rw [wrap_s (by omega)]
          exact ⟨k + 1, ⟨by omega, hr⟩, by omega, weak_hd (by simp -implicitDefEqProofs only [go_sem])⟩
      · simp -implicitDefEqProofs only [go_sem, List.length_map, hlt]
        rw [hr, List.drop_of_length_le (by omega), List.drop_of_length_le (by omega), same_nil]

set_option maxHeartbeats 400000 in
theorem szTerm_of (a : Tm) (H : ∀ l : Int, 0 ≤ l → l ≤ 1048576 → FC Try.prog 23 [.one (tmS a.args), iD l] [iD (szR (tmsW a.args) l)]) (l : Int) (h0 : 0 ≤ l) (h1 : l ≤ 1048576) :
    FC Try.prog 9 [tmD a, iD l] [iD (szR a.wt l)] := by
  refine FC_wf (fun hw => ?_) Try.call9
  simp only [tmD, tmC_eq] at hw ⊢
  have hW := a.wt_eq
  have hls : a.name.length ≤ 9223372036854775807 ∧ True := by simp [wfDs, wfT, wfTs] at hw; simp [hw]
  refine FC_of Try.call9 Try.func9 rfl (by kernel_rfl) (by simp only [rd, List.map_cons, List.map_nil, List.length_cons, List.length_nil, Try.ntmps9]; omega) ?_
  simp -implicitDefEqProofs only [go_sem, Try.results9]
  rw [wrap_in (by omega) (by omega)]
  refine ⟨fun h1 => ?_, fun h1 => ?_⟩
  · rw [szR_big (by simp at h1; have hu0 : tmsW a.args = a.args.length + (a.args.map Tm.wt).sum := rfl;  omega)]
  have k1 : (a.name.length : Int) ≤ l := by simp at h1; omega
  refine callF (H (l - (a.name.length : Int)) (by omega) (by omega)) (by simp -implicitDefEqProofs only [go_sem, tmC_eq]) ?_
  simp -implicitDefEqProofs only [go_sem, tmC_eq]
  refine ⟨fun h2 => ?_, fun h2 => ?_⟩
  · have := szR_neg (by omega) (show szR (tmsW a.args) (l - (a.name.length : Int)) < 0 by simpa using h2)
    rw [szR_big (by have hu0 : tmsW a.args = a.args.length + (a.args.map Tm.wt).sum := rfl;  omega)]
  obtain ⟨k2, j2⟩ := szR_pos (show ¬ szR (tmsW a.args) (l - (a.name.length : Int)) < 0 by simpa using h2)
  rw [show szR a.wt l = l - a.wt from szR_ok (by have hu0 : tmsW a.args = a.args.length + (a.args.map Tm.wt).sum := rfl;  omega)]; exact int_eq (by have hu0 : tmsW a.args = a.args.length + (a.args.map Tm.wt).sum := rfl;  omega)

set_option maxHeartbeats 400000 in
theorem toTerm_of (a : Tm) (H : FC Try.prog 29 [.one (tmS a.args)] [.one (tmS a.args)]) (hs : a.wt ≤ 1048576) : FC Try.prog 12 [tmD a] [tmD a] := by
  have hW := a.wt_eq
  simp only [tmD, tmC_eq]
  refine FC_of Try.call12 Try.func12 rfl (by kernel_rfl) (by simp only [rd, List.map_cons, List.map_nil, List.length_cons, List.length_nil, Try.ntmps12]; omega) ?_
  simp -implicitDefEqProofs only [go_sem, Try.results12]
  refine callF (H) (by simp -implicitDefEqProofs only [go_sem, tmC_eq]) ?_
  simp -implicitDefEqProofs only [go_sem, tmC_eq]

set_option maxHeartbeats 400000 in
theorem eqTerm_of (a b : Tm) (H : FC Try.prog 38 [.one (tmS a.args), .one (tmS b.args)] [bD (same a.args b.args)]) : FC Try.prog 21 [tmD a, tmD b] [bD (same a b)] := by
  simp only [tmD, tmC_eq]
  refine FC_of Try.call21 Try.func21 rfl (by kernel_rfl) (by simp only [rd, List.map_cons, List.map_nil, List.length_cons, List.length_nil, Try.ntmps21]; omega) ?_
  simp -implicitDefEqProofs only [go_sem, Try.results21]
  refine ⟨fun h1 => ?_, fun h1 => ?_⟩
  · rw [same_no.2 (by rintro rfl; simp [same_self] at h1)]
  refine callF (H) (by simp -implicitDefEqProofs only [go_sem, tmC_eq]) ?_
  simp -implicitDefEqProofs only [go_sem, tmC_eq]
  refine ⟨fun h2 => ?_, fun h2 => ?_⟩
  · rw [same_no.2 (by rintro rfl; simp [same_self] at h2)]
  rw [same_iff.2 (by cases a; cases b; simp [same_iff, Tm.name, Tm.args] at h1 h2 ⊢; simp [h1, h2])]

theorem szTerm_c : ∀ a : Tm, ∀ l : Int, 0 ≤ l → l ≤ 1048576 → FC Try.prog 9 [tmD a, iD l] [iD (szR a.wt l)] :=
  tm_ind fun b0 xs ih l h0 h1 => szTerm_of (.mk b0 xs) (fun l h0 h1 => szTermS_of xs ih l h0 h1) l h0 h1
theorem szTermS_c (xs : List Tm) (l : Int) (h0 : 0 ≤ l) (h1 : l ≤ 1048576) : FC Try.prog 23 [.one (tmS xs), iD l] [iD (szR (tmsW xs) l)] := szTermS_of xs (fun x _ => szTerm_c x) l h0 h1
theorem toTerm_c : ∀ a : Tm, a.wt ≤ 1048576 → FC Try.prog 12 [tmD a] [tmD a] := by
  refine tm_ind fun b0 xs ih hs => ?_
  have hW := Tm.wt_eq (.mk b0 xs)
  simp only [Tm.name, Tm.args] at hW
  refine toTerm_of _ (toTermS_of xs (fun x hx => ih x hx ?_) (by omega)) hs
  have := mem_sum Tm.wt xs x hx
  omega
theorem toTermS_c (xs : List Tm) (hs : tmsW xs ≤ 1048576) : FC Try.prog 29 [.one (tmS xs)] [.one (tmS xs)] :=
  toTermS_of xs (fun x hx => toTerm_c x (by have := mem_sum Tm.wt xs x hx; unfold tmsW at hs; omega)) (by unfold tmsW at hs; omega)
theorem eqTerm_c : ∀ a b : Tm, FC Try.prog 21 [tmD a, tmD b] [bD (same a b)] :=
  tm_ind fun b0 xs ih b => eqTerm_of (.mk b0 xs) b (eqTermS_of xs b.args ih)
theorem eqTermS_c (xs ys : List Tm) : FC Try.prog 38 [.one (tmS xs), .one (tmS ys)] [bD (same xs ys)] := eqTermS_of xs ys fun x _ => eqTerm_c x

end Go.Proofs.Ytfppgpojemdijaa
/-
  Contracts of functions of the program and of its laws, over plain data.
  Conditions: those that each theorem names.
-/
namespace Go.Proofs.Ytfppgpojemdijaa
set_option linter.unusedSimpArgs false
set_option linter.unusedVariables false
set_option linter.unusedSectionVars false
set_option maxRecDepth 4000
open Go.RowKit

set_option maxHeartbeats 400000 in
theorem szFormulaS_of (xs : List Fm) (H : ∀ x ∈ xs, ∀ l : Int, 0 ≤ l → l ≤ 1048576 → FC Try.prog 4 [fmD x, iD l] [iD (szR x.wt l)]) (l : Int) (h0 : 0 ≤ l) (h1 : l ≤ 1048576) :
    FC Try.prog 10 [.one (fmS xs), iD l] [iD (szR (fmsW xs) l)] := by
  refine FC_wf (fun hw => ?_) Try.call10
  have hl : xs.length ≤ 9223372036854775807 := by simpa [wfDs, wfT] using hw.1.1
  refine FC_of Try.call10 Try.func10 rfl (by kernel_rfl) (by simp only [rd, List.map_cons, List.map_nil, List.length_cons, List.length_nil, Try.ntmps10]; omega) ?_
  simp -implicitDefEqProofs only [go_sem, Try.results10]
  rw [wrap_in (by omega) (by omega)]
  have hW : fmsW xs = xs.length + (xs.map Fm.wt).sum := rfl
  refine ⟨fun h => ?_, fun h => ?_⟩
  · rw [szR_big (by simp at h; omega)]
  · have hlen : (xs.length : Int) ≤ l := by simp at h; omega
    refine loop_rule (fun k : Nat => hd [(0, vT (fmS xs)), (1, vI (l - xs.length - psum Fm.wt xs k)), (5, vI k)] [] []) (fun k => k ≤ xs.length ∧ 0 ≤ l - xs.length - psum Fm.wt xs k) (fun k => xs.length - k) 0 (weak_hd ?_) ?_ ?_
    · simp -implicitDefEqProofs only [go_sem]
      simp [psum_zero]
    · simpa [psum_zero] using hlen
    · intro k ⟨hk, hp⟩
      by_cases hlt : k < xs.length
      · have hs := psum_succ Fm.wt xs k hlt
        have hs2 := psum_le Fm.wt xs (k + 1)
        simp -implicitDefEqProofs only [go_sem, List.length_map, getD_at, hlt, fmC_eq, tmC_eq]
        refine callF (H xs[k] (List.getElem_mem hlt) (l - xs.length - psum Fm.wt xs k) hp (by omega)) (by simp -implicitDefEqProofs only [go_sem, fmC_eq, tmC_eq]) ?_
        simp -implicitDefEqProofs only [go_sem, fmC_eq, tmC_eq]
        refine ⟨fun h => ?_, fun h => ?_⟩
        · have := szR_neg hp (by simpa using h)
          rw [szR_big (by omega)]
        · obtain ⟨h2, h3⟩ := szR_pos (by simpa using h)
          rw [wrap_s (by omega)]
          exact ⟨k + 1, ⟨hlt, by omega⟩, by omega, weak_hd (by simp -implicitDefEqProofs only [go_sem]; rw [h3]; congr 1; omega)⟩
      · simp -implicitDefEqProofs only [go_sem, List.length_map, hlt]
        have hall := psum_all Fm.wt xs k (by omega)
        rw [hall, szR_ok (by omega)]; congr 1; omega

set_option maxHeartbeats 400000 in
theorem toFormulaS_of (xs : List Fm) (H : ∀ x ∈ xs, FC Try.prog 6 [fmD x] [fmD x]) (hs : xs.length ≤ 1048576) :
    FC Try.prog 13 [.one (fmS xs)] [.one (fmS xs)] := by
  refine FC_wf (fun hw => ?_) Try.call13
  refine FC_of Try.call13 Try.func13 rfl (by kernel_rfl) (by simp only [rd, List.map_cons, List.map_nil, List.length_cons, List.length_nil, Try.ntmps13]; omega) ?_
  simp -implicitDefEqProofs only [go_sem, Try.results13]
  refine makeD (by simp -implicitDefEqProofs only [go_sem]; omega) ?_
  simp -implicitDefEqProofs only [go_sem]
  refine loop_rule (fun k : Nat => hd [(0, vT (fmS xs)), (3, .one (.ow 224 0)), (4, vI k)] [] [(224, ⟨true, 5, (xs.take k).map fmC ++ List.replicate (xs.length - k) [T.int .i64 0, T.str [], T.sl 2 [], T.str [], T.sl 5 []], 0, true⟩)]) (fun k => k ≤ xs.length) (fun k => xs.length - k) 0 (weak_hd ?_) ?_ ?_
  · simp -implicitDefEqProofs only [go_sem]
    simp
  · simp
  · intro k hk
    by_cases hlt : k < xs.length
    · have hlen : ((xs.take k).map fmC ++ List.replicate (xs.length - k) [T.int .i64 0, T.str [], T.sl 2 [], T.str [], T.sl 5 []]).length = xs.length := by simp; omega
      have hlt2 : k < k + (xs.length - k) := by omega
      simp -implicitDefEqProofs only [go_sem, List.length_map, getD_at, hlt, fmC_eq, tmC_eq]
      refine callF (H xs[k] (List.getElem_mem hlt)) (by simp -implicitDefEqProofs only [go_sem, fmC_eq, tmC_eq, hlen, hlt, List.length_append, List.length_map, List.length_take, List.length_replicate, Nat.min_eq_left hk, hlt2]) ?_
      simp -implicitDefEqProofs only [go_sem, fmC_eq, tmC_eq, hlen, hlt, List.length_append, List.length_map, List.length_take, List.length_replicate, Nat.min_eq_left hk, hlt2]
      refine storeD (by simp -implicitDefEqProofs only [go_sem]; simp) ?_
      simp -implicitDefEqProofs only [go_sem]
      rw [wrap_s (by omega)]
      refine ⟨k + 1, by omega, by omega, weak_hd ?_⟩
      simp -implicitDefEqProofs only [go_sem]
      have hf := fill_next ((xs.take k).map fmC) xs.length k [T.int .i64 0, T.str [], T.sl 2 [], T.str [], T.sl 5 []] (fmC xs[k]) (by simp; omega) hlt (by simp [fmC_eq, tmC_eq])
      simp only [fmC_eq, tmC_eq] at hf
      rw [hf, List.take_succ_eq_append_getElem hlt, List.map_append, List.map_singleton]
      simp only [fmC_eq, tmC_eq]
    · simp -implicitDefEqProofs only [go_sem, List.length_map, hlt]
      simp [List.take_of_length_le (show xs.length ≤ k by omega), show xs.length - k = 0 by omega]

set_option maxHeartbeats 400000 in
theorem eqFormulaS_of (xs ys : List Fm) (H : ∀ x ∈ xs, ∀ y, FC Try.prog 8 [fmD x, fmD y] [bD (same x y)]) :
    FC Try.prog 22 [.one (fmS xs), .one (fmS ys)] [bD (same xs ys)] := by
  refine FC_wf (fun hw => ?_) Try.call22
  have hl : xs.length ≤ 9223372036854775807 := by simpa [wfDs, wfT] using hw.1.1
  have hl2 : ys.length ≤ 9223372036854775807 := by simpa [wfDs, wfT] using hw.2.1.1
  refine FC_of Try.call22 Try.func22 rfl (by kernel_rfl) (by simp only [rd, List.map_cons, List.map_nil, List.length_cons, List.length_nil, Try.ntmps22]; omega) ?_
  simp -implicitDefEqProofs only [go_sem, Try.results22]
  refine ⟨fun h => ?_, fun h => ?_⟩
  · rw [same_no.2 (by rintro rfl; simp at h)]
  · have hlen : xs.length = ys.length := by simp at h; omega
    refine loop_rule (fun k : Nat => hd [(0, vT (fmS xs)), (1, vT (fmS ys)), (4, vB false), (5, vI k)] [] []) (fun k => k ≤ xs.length ∧ same xs ys = same (xs.drop k) (ys.drop k)) (fun k => xs.length - k) 0 (weak_hd ?_) ?_ ?_
    · simp -implicitDefEqProofs only [go_sem]
    · simp
    · intro k ⟨hk, hr⟩
      by_cases hlt : k < xs.length
      · have hk2 : k < ys.length := by omega
        simp -implicitDefEqProofs only [go_sem, List.length_map, hlt]
        refine drawn (by kernel_rfl) ?_
        simp -implicitDefEqProofs only [go_sem, List.length_map, getD_at, hlt, hk2, fmC_eq, tmC_eq]
        refine dCallF (H xs[k] (List.getElem_mem hlt) ys[k]) (by simp -implicitDefEqProofs only [go_sem, fmC_eq, tmC_eq]) ?_
        simp -implicitDefEqProofs only [go_sem, fmC_eq, tmC_eq]
        refine ⟨by kernel_rfl, fun h => ?_, fun h => ?_⟩
        · rw [hr, List.drop_eq_getElem_cons hlt, List.drop_eq_getElem_cons hk2, same_cons, show same xs[k] ys[k] = false by simpa using h]; rfl
        · rw [List.drop_eq_getElem_cons hlt, List.drop_eq_getElem_cons hk2, same_cons, show same xs[k] ys[k] = true by simpa using h, Bool.true_and] at hr
          rw [wrap_s (by omega)]
          exact ⟨k + 1, ⟨by omega, hr⟩, by omega, weak_hd (by simp -implicitDefEqProofs only [go_sem])⟩
      · simp -implicitDefEqProofs only [go_sem, List.length_map, hlt]
        rw [hr, List.drop_of_length_le (by omega), List.drop_of_length_le (by omega), same_nil]

set_option maxHeartbeats 400000 in
theorem szFormula_of (a : Fm) (H : ∀ l : Int, 0 ≤ l → l ≤ 1048576 → FC Try.prog 10 [.one (fmS a.parts), iD l] [iD (szR (fmsW a.parts) l)]) (l : Int) (h0 : 0 ≤ l) (h1 : l ≤ 1048576) :
    FC Try.prog 4 [fmD a, iD l] [iD (szR a.wt l)] := by
  refine FC_wf (fun hw => ?_) Try.call4
  simp only [fmD, fmC_eq, tmC_eq] at hw ⊢
  have hW := a.wt_eq
  have hls : a.var.length ≤ 9223372036854775807 ∧ True := by simp [wfDs, wfT, wfTs] at hw; simp [hw]
  refine FC_of Try.call4 Try.func4 rfl (by kernel_rfl) (by simp only [rd, List.map_cons, List.map_nil, List.length_cons, List.length_nil, Try.ntmps4]; omega) ?_
  simp -implicitDefEqProofs only [go_sem, Try.results4]
  refine callF (szTerm_c a.atom l (by omega) (by omega)) (by simp -implicitDefEqProofs only [go_sem, fmC_eq, tmC_eq, tmC_eq]) ?_
  simp -implicitDefEqProofs only [go_sem, fmC_eq, tmC_eq, tmC_eq]
  refine ⟨fun h1 => ?_, fun h1 => ?_⟩
  · have := szR_neg (by omega) (show szR a.atom.wt l < 0 by simpa using h1)
    rw [szR_big (by have hu0 : fmsW a.parts = a.parts.length + (a.parts.map Fm.wt).sum := rfl;  omega)]
  obtain ⟨k1, j1⟩ := szR_pos (show ¬ szR a.atom.wt l < 0 by simpa using h1)
  rw [wrap_in (by omega) (by omega)]
  refine ⟨fun h2 => ?_, fun h2 => ?_⟩
  · rw [szR_big (by simp at h2; have hu0 : fmsW a.parts = a.parts.length + (a.parts.map Fm.wt).sum := rfl;  omega)]
  have k2 : (a.var.length : Int) ≤ (szR a.atom.wt l) := by simp at h2; omega
  refine callF (H ((szR a.atom.wt l) - (a.var.length : Int)) (by omega) (by omega)) (by simp -implicitDefEqProofs only [go_sem, fmC_eq, tmC_eq]) ?_
  simp -implicitDefEqProofs only [go_sem, fmC_eq, tmC_eq]
  refine ⟨fun h3 => ?_, fun h3 => ?_⟩
  · have := szR_neg (by omega) (show szR (fmsW a.parts) ((szR a.atom.wt l) - (a.var.length : Int)) < 0 by simpa using h3)
    rw [szR_big (by have hu0 : fmsW a.parts = a.parts.length + (a.parts.map Fm.wt).sum := rfl;  omega)]
  obtain ⟨k3, j3⟩ := szR_pos (show ¬ szR (fmsW a.parts) ((szR a.atom.wt l) - (a.var.length : Int)) < 0 by simpa using h3)
  rw [show szR a.wt l = l - a.wt from szR_ok (by have hu0 : fmsW a.parts = a.parts.length + (a.parts.map Fm.wt).sum := rfl;  omega)]; exact int_eq (by have hu0 : fmsW a.parts = a.parts.length + (a.parts.map Fm.wt).sum := rfl;  omega)

set_option maxHeartbeats 400000 in
theorem toFormula_of (a : Fm) (H : FC Try.prog 13 [.one (fmS a.parts)] [.one (fmS a.parts)]) (hs : a.wt ≤ 1048576) : FC Try.prog 6 [fmD a] [fmD a] := by
  have hW := a.wt_eq
  simp only [fmD, fmC_eq, tmC_eq]
  refine FC_of Try.call6 Try.func6 rfl (by kernel_rfl) (by simp only [rd, List.map_cons, List.map_nil, List.length_cons, List.length_nil, Try.ntmps6]; omega) ?_
  simp -implicitDefEqProofs only [go_sem, Try.results6]
  refine callF (toTerm_c a.atom (by have hu0 : fmsW a.parts = a.parts.length + (a.parts.map Fm.wt).sum := rfl;  omega)) (by simp -implicitDefEqProofs only [go_sem, fmC_eq, tmC_eq, tmC_eq]) ?_
  simp -implicitDefEqProofs only [go_sem, fmC_eq, tmC_eq, tmC_eq]
  refine callF (H) (by simp -implicitDefEqProofs only [go_sem, fmC_eq, tmC_eq]) ?_
  simp -implicitDefEqProofs only [go_sem, fmC_eq, tmC_eq]

set_option maxHeartbeats 400000 in
theorem eqFormula_of (a b : Fm) (H : FC Try.prog 22 [.one (fmS a.parts), .one (fmS b.parts)] [bD (same a.parts b.parts)]) : FC Try.prog 8 [fmD a, fmD b] [bD (same a b)] := by
  simp only [fmD, fmC_eq, tmC_eq]
  refine FC_of Try.call8 Try.func8 rfl (by kernel_rfl) (by simp only [rd, List.map_cons, List.map_nil, List.length_cons, List.length_nil, Try.ntmps8]; omega) ?_
  simp -implicitDefEqProofs only [go_sem, Try.results8]
  refine ⟨fun h1 => ?_, fun h1 => ?_⟩
  · rw [same_no.2 (by rintro rfl; simp [same_self] at h1)]
  refine callF (eqTerm_c a.atom b.atom) (by simp -implicitDefEqProofs only [go_sem, fmC_eq, tmC_eq, tmC_eq]) ?_
  simp -implicitDefEqProofs only [go_sem, fmC_eq, tmC_eq, tmC_eq]
  refine ⟨fun h2 => ?_, fun h2 => ?_⟩
  · rw [same_no.2 (by rintro rfl; simp [same_self] at h2)]
  refine ⟨fun h3 => ?_, fun h3 => ?_⟩
  · rw [same_no.2 (by rintro rfl; simp [same_self] at h3)]
  refine callF (H) (by simp -implicitDefEqProofs only [go_sem, fmC_eq, tmC_eq]) ?_
  simp -implicitDefEqProofs only [go_sem, fmC_eq, tmC_eq]
  refine ⟨fun h4 => ?_, fun h4 => ?_⟩
  · rw [same_no.2 (by rintro rfl; simp [same_self] at h4)]
  rw [same_iff.2 (by cases a; cases b; simp [same_iff, Fm.op, Fm.atom, Fm.var, Fm.parts] at h1 h2 h3 h4 ⊢; simp [h1, h2, h3, h4])]

theorem szFormula_c : ∀ a : Fm, ∀ l : Int, 0 ≤ l → l ≤ 1048576 → FC Try.prog 4 [fmD a, iD l] [iD (szR a.wt l)] :=
  fm_ind fun b0 b1 b2 xs ih l h0 h1 => szFormula_of (.mk b0 b1 b2 xs) (fun l h0 h1 => szFormulaS_of xs ih l h0 h1) l h0 h1
theorem szFormulaS_c (xs : List Fm) (l : Int) (h0 : 0 ≤ l) (h1 : l ≤ 1048576) : FC Try.prog 10 [.one (fmS xs), iD l] [iD (szR (fmsW xs) l)] := szFormulaS_of xs (fun x _ => szFormula_c x) l h0 h1
theorem toFormula_c : ∀ a : Fm, a.wt ≤ 1048576 → FC Try.prog 6 [fmD a] [fmD a] := by
  refine fm_ind fun b0 b1 b2 xs ih hs => ?_
  have hW := Fm.wt_eq (.mk b0 b1 b2 xs)
  simp only [Fm.op, Fm.atom, Fm.var, Fm.parts] at hW
  refine toFormula_of _ (toFormulaS_of xs (fun x hx => ih x hx ?_) (by omega)) hs
  have := mem_sum Fm.wt xs x hx
  omega
theorem toFormulaS_c (xs : List Fm) (hs : fmsW xs ≤ 1048576) : FC Try.prog 13 [.one (fmS xs)] [.one (fmS xs)] :=
  toFormulaS_of xs (fun x hx => toFormula_c x (by have := mem_sum Fm.wt xs x hx; unfold fmsW at hs; omega)) (by unfold fmsW at hs; omega)
theorem eqFormula_c : ∀ a b : Fm, FC Try.prog 8 [fmD a, fmD b] [bD (same a b)] :=
  fm_ind fun b0 b1 b2 xs ih b => eqFormula_of (.mk b0 b1 b2 xs) b (eqFormulaS_of xs b.parts ih)
theorem eqFormulaS_c (xs ys : List Fm) : FC Try.prog 22 [.one (fmS xs), .one (fmS ys)] [bD (same xs ys)] := eqFormulaS_of xs ys fun x _ => eqFormula_c x

end Go.Proofs.Ytfppgpojemdijaa
/-
  Herbrand formulas: the program's test and the reference's; the law.
  Conditions: those that each theorem names.
-/
namespace Go.Proofs.Ytfppgpojemdijaa
set_option linter.unusedSimpArgs false
set_option linter.unusedVariables false
set_option linter.unusedSectionVars false
set_option maxRecDepth 4000
open Go.RowKit
theorem gforms {f : Fm} (h : f.good = true) : f.forms = true := (Bool.and_eq_true _ _ ▸ h : _ ∧ _).2
theorem sortS_le (xs : List Str) : (sortS xs).Pairwise (· ≤ ·) := by
  have tr : ∀ a b c : List UInt8, leB a b = true → leB b c = true → leB a c = true := fun a b c h1 h2 => by simp only [leB, decide_eq_true_eq] at *; exact List.le_trans h1 h2
  have to : ∀ a b : List UInt8, (leB a b || leB b a) = true := fun a b => by simp only [leB, Bool.or_eq_true, decide_eq_true_eq]; exact List.le_total a b
  refine (List.pairwise_mergeSort tr to xs).imp ?_
  intro a b h1
  simpa only [leB, decide_eq_true_eq] using h1
theorem sortS_len (ns : List Str) : (sortS ns).length = ns.length := (List.mergeSort_perm ns leB).length_eq
theorem compact_len (ns : List Str) : ((Lib.compact (sortS ns)).length == ns.length) = decide ns.Nodup := by
  have hp : (sortS ns).Nodup ↔ ns.Nodup := (List.mergeSort_perm ns leB).nodup_iff
  rw [Bool.eq_iff_iff, beq_iff_eq, decide_eq_true_eq, ← hp, ← sortS_len ns]
  have hs : (sortS ns).Pairwise (· ≤ ·) := sortS_le ns
  generalize sortS ns = zs at hs ⊢
  unfold Lib.compact Lib.compactUpTo
  rw [List.length_map]
  have hr : zs.length = (List.range zs.length).length := by simp
  rw [show ((List.filter (Lib.keeps zs.toArray) (List.range zs.length)).length = zs.length) = ((List.filter (Lib.keeps zs.toArray) (List.range zs.length)).length = (List.range zs.length).length) by rw [← hr], List.length_filter_eq_length_iff]
  rw [List.pairwise_iff_getElem] at hs
  unfold List.Nodup
  rw [List.pairwise_iff_getElem]
  constructor
  · intro h i j hi hj hij e
    have hk := h j (by simpa using hj)
    unfold Lib.keeps at hk
    rw [decide_eq_true_eq] at hk
    rcases hk with hk | hk
    · omega
    · apply hk
      have hj1 : j - 1 < zs.length := by omega
      rw [show zs.toArray[j]! = zs[j] by simp [hj], show zs.toArray[j - 1]! = zs[j - 1] by simp [hj1]]
      by_cases hij2 : i = j - 1
      · subst hij2; exact e.symm
      · have h1 := hs i (j - 1) hi hj1 (by omega)
        have h2 := hs (j - 1) j hj1 hj (by omega)
        rw [← e] at h2 ⊢
        exact List.le_antisymm h1 h2
  · intro h j hj
    have hj : j < zs.length := by simpa using hj
    unfold Lib.keeps
    rw [decide_eq_true_eq]
    by_cases h0 : j = 0
    · exact Or.inl h0
    · right
      have hj1 : j - 1 < zs.length := by omega
      rw [show zs.toArray[j]! = zs[j] by simp [hj], show zs.toArray[j - 1]! = zs[j - 1] by simp [hj1]]
      exact fun e => h (j - 1) j hj1 hj (by omega) e.symm
/-- A Herbrand formula. -/
noncomputable def herF (f : Fm) : Bool := f.good && decide ((putSs [] (vf f [])).length = 0) && decide (exN f).1.Nodup && plainF (exN f).2
theorem isHerbrand_c (f : Fm) (hw : f.wt ≤ 1048576) : FC Try.prog 7 [fmD f] [bD (herF f)] := by
  have hH : herF f = (f.good && decide ((putSs [] (vf f [])).length = 0) && decide (exN f).1.Nodup && plainF (exN f).2) := rfl
  cases hg : f.good
  · rw [hH, hg]
    simp only [fmD, fmC_eq f]
    refine FC_ofN Try.call7 Try.func7 rfl (by kernel_rfl) (by simp only [rd, List.map_cons, List.map_nil, List.length_cons, List.length_nil, Try.ntmps7]; omega) ?_
    simp -implicitDefEqProofs only [go_sem, Try.results7]
    refine callF (isValidFormula_c f (by omega)) (by simp -implicitDefEqProofs only [go_sem, fmC_eq f, hg]) ?_
    simp -implicitDefEqProofs only [go_sem, fmC_eq f, hg]
  · rw [hg, Bool.true_and] at hH
    have HF := free_c f (gforms hg) hw
    have HP := prefix_c f (gforms hg) hw
    have hL := exN_len f
    have hN := fnodes_wt f
    generalize (exN f).1 = ns at hH HP hL
    generalize (exN f).2 = g at hH HP
    generalize (putSs [] (vf f [])) = V at hH HF
    have hcl := compact_len ns
    simp only [fmD, fmC_eq f, fmC_eq g] at HF HP ⊢
    refine FC_ofN Try.call7 Try.func7 rfl (by kernel_rfl) (by simp only [rd, List.map_cons, List.map_nil, List.length_cons, List.length_nil, Try.ntmps7]; omega) ?_
    simp -implicitDefEqProofs only [go_sem, Try.results7]
    refine callF (isValidFormula_c f (by omega)) (by simp -implicitDefEqProofs only [go_sem, fmC_eq f, hg]) ?_
    simp -implicitDefEqProofs only [go_sem, fmC_eq f, hg]
    by_cases hV : V.length = 0
    · have hS := sortStr_c ns (by omega)
      have hC := cloneStr_c (sortS ns) (by rw [sortS_len]; omega)
      have hK := compactStr_c (sortS ns)
      have hO := hasOp_c g
      simp only [fmD, fmC_eq g] at hO
      rw [← sortS_len ns] at hcl
      have hsl := sortS_len ns
      generalize Lib.compact (sortS ns) = cs at hK hcl
      generalize sortS ns = ss at hS hC hK hcl hsl
      rw [show decide (V.length = 0) = true by simp [hV], Bool.true_and] at hH
      refine callFr (HF) (by simp -implicitDefEqProofs only [go_sem, hV]) ?_
      simp -implicitDefEqProofs only [go_sem, hV]
      refine callXL [1] [15] [] (HP) (by simp -implicitDefEqProofs only [go_sem]) (by simp -implicitDefEqProofs only [go_sem]) (by simp -implicitDefEqProofs only [go_sem]) (by simp -implicitDefEqProofs only [go_sem]) ?_
      simp -implicitDefEqProofs only [go_sem]
      refine callIs (hS) (by simp -implicitDefEqProofs only [go_sem, flR_strs]) (by simp -implicitDefEqProofs only [go_sem, flR_strs]) rfl ?_
      simp -implicitDefEqProofs only [go_sem, flR_strs]
      refine frzO 512 rfl rfl ?_
      simp -implicitDefEqProofs only [go_sem]
      refine callF (hC) (by simp -implicitDefEqProofs only [go_sem]) ?_
      simp -implicitDefEqProofs only [go_sem]
      have hcl' : ((cs.length : Int) == (ss.length : Int)) = decide ns.Nodup := by rw [← hcl, Bool.eq_iff_iff]; simp only [beq_iff_eq]; omega
      cases hn : decide ns.Nodup
      · rw [hn] at hcl' hH
        refine callGL [3, 4] [22] [] (hK) (by simp -implicitDefEqProofs only [go_sem, hcl']) (by simp -implicitDefEqProofs only [go_sem, hcl']) (by simp -implicitDefEqProofs only [go_sem, hcl']) (by simp -implicitDefEqProofs only [go_sem, hcl']) ?_
        simp -implicitDefEqProofs only [go_sem, hcl']
        exact Or.inl (by rw [hH]; rfl)
      · rw [hn] at hcl' hH
        refine callGL [3, 4] [22] [] (hK) (by simp -implicitDefEqProofs only [go_sem, hcl']) (by simp -implicitDefEqProofs only [go_sem, hcl']) (by simp -implicitDefEqProofs only [go_sem, hcl']) (by simp -implicitDefEqProofs only [go_sem, hcl']) ?_
        simp -implicitDefEqProofs only [go_sem, hcl']
        refine buildSc (by simp -implicitDefEqProofs only [go_sem]) ?_
        simp -implicitDefEqProofs only [go_sem]
        refine callF (hO) (by simp -implicitDefEqProofs only [go_sem]) ?_
        simp -implicitDefEqProofs only [go_sem]
        exact Or.inl (by rw [hH]; simp)
    · rw [show decide (V.length = 0) = false by simp [hV], Bool.false_and, Bool.false_and] at hH
      have hV' : (0 : Int) < (V.length : Int) := by omega
      refine callFr (HF) (by simp -implicitDefEqProofs only [go_sem, hV']) ?_
      simp -implicitDefEqProofs only [go_sem, hV']
      exact Or.inl (by rw [hH])
theorem l16Formula_c (f : Fm) (hw : f.wt ≤ 1048576) : FC Try.prog 11 [fmD f] [bD (herF f)] := by
  have hH : herF f = (f.good && decide ((putSs [] (vf f [])).length = 0) && decide (exN f).1.Nodup && plainF (exN f).2) := rfl
  cases hg : f.good
  · rw [hH, hg]
    simp only [fmD, fmC_eq f]
    refine FC_ofN Try.call11 Try.func11 rfl (by kernel_rfl) (by simp only [rd, List.map_cons, List.map_nil, List.length_cons, List.length_nil, Try.ntmps11]; omega) ?_
    simp -implicitDefEqProofs only [go_sem, Try.results11]
    refine callF (l8Good_c f (by omega)) (by simp -implicitDefEqProofs only [go_sem, fmC_eq f, hg]) ?_
    simp -implicitDefEqProofs only [go_sem, fmC_eq f, hg]
  · rw [hg, Bool.true_and] at hH
    have HF := l8Free_c f (gforms hg) hw
    have HP := l16Open_c f (gforms hg) hw
    have hL := exN_len f
    have hN := fnodes_wt f
    have hgw := Nat.le_trans (exN_wt f) hw
    generalize (exN f).1 = ns at hH HP hL
    generalize (exN f).2 = g at hH HP hgw
    generalize (putSs [] (vf f [])) = V at hH HF
    simp only [fmD, fmC_eq f, fmC_eq g] at HF HP ⊢
    refine FC_ofN Try.call11 Try.func11 rfl (by kernel_rfl) (by simp only [rd, List.map_cons, List.map_nil, List.length_cons, List.length_nil, Try.ntmps11]; omega) ?_
    simp -implicitDefEqProofs only [go_sem, Try.results11]
    refine callF (l8Good_c f (by omega)) (by simp -implicitDefEqProofs only [go_sem, fmC_eq f, hg]) ?_
    simp -implicitDefEqProofs only [go_sem, fmC_eq f, hg]
    by_cases hV : V.length = 0
    · have hO := l16Plain_c g hgw
      simp only [fmD, fmC_eq g] at hO
      rw [show decide (V.length = 0) = true by simp [hV], Bool.true_and] at hH
      refine callFr (HF) (by simp -implicitDefEqProofs only [go_sem, hV]) ?_
      simp -implicitDefEqProofs only [go_sem, hV]
      refine callXL [1] [16] [] (HP) (by simp -implicitDefEqProofs only [go_sem]) (by simp -implicitDefEqProofs only [go_sem]) (by simp -implicitDefEqProofs only [go_sem]) (by simp -implicitDefEqProofs only [go_sem]) ?_
      simp -implicitDefEqProofs only [go_sem]
      refine loop_rule (fun k : Nat => hd [(3, .one (.rn (strS ns))), (4, .one (.bx 4 0)), (5, vI k)] [(4, [.t (.int .i64 g.op), .t (.str g.atom.name), .rn (tmS g.atom.args), .t (.str g.var), .rn (fmS g.parts)])] []) (fun k => k ≤ ns.length ∧ (ns.take k).Nodup) (fun k => ns.length - k) 0 (weak_hd ?_) ⟨Nat.zero_le _, List.nodup_nil⟩ ?_
      · simp -implicitDefEqProofs only [go_sem]
      · rintro k ⟨hk, hT⟩
        by_cases hlt : k < ns.length
        · simp -implicitDefEqProofs only [go_sem, hlt]
          refine drawn (by kernel_rfl) ?_
          simp -implicitDefEqProofs only [go_sem, getD_at, hlt]
          refine ⟨hk, ?_⟩
          refine dCallF (l2In_c (ns.take k) ns[k]) (by simp -implicitDefEqProofs only [go_sem, strS, List.map_take]) ?_
          simp -implicitDefEqProofs only [go_sem, strS, List.map_take]
          refine ⟨by kernel_rfl, fun h => ?_, fun h => ?_⟩
          · have hn : decide ns.Nodup = false := by
              rw [decide_eq_false_iff_not]
              intro hnd
              have h1 : (ns.take (k + 1)).Nodup := hnd.sublist (List.take_sublist _ _)
              rw [List.take_succ_eq_append_getElem hlt, List.nodup_append] at h1
              exact h1.2.2 _ (by simpa using h) _ (by simp) rfl
            rw [hn] at hH
            exact Or.inl (by rw [hH]; rfl)
          · refine ⟨k + 1, ⟨hlt, ?_⟩, by omega, weak_hd ?_⟩
            · rw [List.take_succ_eq_append_getElem hlt, List.nodup_append]
              refine ⟨hT, by simp, ?_⟩
              rintro a ha b hb rfl
              rw [List.mem_singleton] at hb
              subst hb
              simp only [List.contains_eq_mem, decide_eq_false_iff_not] at h
              exact h ha
            · simp -implicitDefEqProofs only [go_sem]
              rw [wrap_s (by omega)]
        · simp -implicitDefEqProofs only [go_sem, hlt]
          rw [List.take_of_length_le (by omega)] at hT
          rw [show decide ns.Nodup = true by simp [hT], Bool.true_and] at hH
          refine callF (hO) (by simp -implicitDefEqProofs only [go_sem]) ?_
          simp -implicitDefEqProofs only [go_sem]
          exact Or.inl (by rw [hH])
    · rw [show decide (V.length = 0) = false by simp [hV], Bool.false_and, Bool.false_and] at hH
      have hV' : (0 : Int) < (V.length : Int) := by omega
      refine callFr (HF) (by simp -implicitDefEqProofs only [go_sem, hV']) ?_
      simp -implicitDefEqProofs only [go_sem, hV']
      exact Or.inl (by rw [hH])
end Go.Proofs.Ytfppgpojemdijaa
/-
  The law of IsHerbrandFormula.
  Conditions: those that each theorem names.
-/
namespace Go.Proofs.Ytfppgpojemdijaa
set_option linter.unusedSimpArgs false
set_option linter.unusedVariables false
set_option linter.unusedSectionVars false
set_option maxRecDepth 4000
open Go.RowKit
theorem specIsHerbrand_c (f : Fm) (hw : f.wt ≤ 1048576) : FC Try.prog 5 [fmD f] [bD (herF f)] := by
  have HC := l16Formula_c f hw
  simp only [fmD, fmC_eq f] at HC ⊢
  refine FC_of Try.call5 Try.func5 rfl (by kernel_rfl) (by simp only [rd, List.map_cons, List.map_nil, List.length_cons, List.length_nil, Try.ntmps5]; omega) ?_
  simp -implicitDefEqProofs only [go_sem, Try.results5]
  refine callF (HC) (by simp -implicitDefEqProofs only [go_sem]) ?_
  simp -implicitDefEqProofs only [go_sem]
theorem lawIsHerbrand_c (f : Fm) : FC Try.prog 3 [fmD f] [bD true] := by
  simp only [fmD, fmC_eq f]
  refine FC_ofN Try.call3 Try.func3 rfl (by kernel_rfl) (by simp only [rd, List.map_cons, List.map_nil, List.length_cons, List.length_nil, Try.ntmps3]; omega) ?_
  simp -implicitDefEqProofs only [go_sem, Try.results3]
  refine callF (szFormula_c f 1048576 (by omega) (by omega)) (by simp -implicitDefEqProofs only [go_sem, fmC_eq f]) ?_
  simp -implicitDefEqProofs only [go_sem, fmC_eq f]
  refine ⟨fun h => trivial, fun h => ?_⟩
  have hw : f.wt ≤ 1048576 := by have := (szR_pos (by simpa using h)).1; omega
  have HS := specIsHerbrand_c f hw
  have HI := isHerbrand_c f hw
  simp only [fmD, fmC_eq f] at HS HI
  refine callF (toFormula_c f (by omega)) (by simp -implicitDefEqProofs only [go_sem, fmC_eq f]) ?_
  simp -implicitDefEqProofs only [go_sem, fmC_eq f]
  refine callF (HS) (by simp -implicitDefEqProofs only [go_sem, fmC_eq f]) ?_
  simp -implicitDefEqProofs only [go_sem, fmC_eq f]
  refine callF (toFormula_c f (by omega)) (by simp -implicitDefEqProofs only [go_sem, fmC_eq f]) ?_
  simp -implicitDefEqProofs only [go_sem, fmC_eq f]
  refine callF (HI) (by simp -implicitDefEqProofs only [go_sem, fmC_eq f]) ?_
  simp -implicitDefEqProofs only [go_sem, fmC_eq f]
  refine ⟨fun h => by simp at h, fun _ => ?_⟩
  refine drawn (by kernel_rfl) ?_
  simp -implicitDefEqProofs only [go_sem]
  refine dCallF (toFormula_c f (by omega)) (by simp -implicitDefEqProofs only [go_sem, fmC_eq f]) ?_
  simp -implicitDefEqProofs only [go_sem, fmC_eq f]
  refine dCallF (eqFormula_c f f) (by simp -implicitDefEqProofs only [go_sem, fmC_eq f]) ?_
  simp -implicitDefEqProofs only [go_sem, fmC_eq f]
  refine ⟨by kernel_rfl, fun h => ?_, fun _ => ?_⟩
  · simp [same_self] at h
  · trivial
end Go.Proofs.Ytfppgpojemdijaa
/-
  What a row's reading of an argument gives: the reading of plain data.
  Conditions: none.
-/
namespace Go.Proofs.Ytfppgpojemdijaa
set_option linter.unusedSimpArgs false
set_option linter.unusedVariables false
set_option linter.unusedSectionVars false
set_option maxRecDepth 4000
open Go.RowKit

/-- A plain datum as a tree. -/
inductive PD where
  | int (n : Int)
  | bool (b : Bool)
  | str (s : List UInt8)
  | sl (sz : Nat) (xs : List PD)
  | st (fs : List PD)
mutual
/-- Its cells. -/
def PD.cells : PD → List T
  | .int n => [.int .i64 n]
  | .bool b => [.bool b]
  | .str s => [.str s]
  | .sl sz xs => [.sl sz (PD.rows xs)]
  | .st fs => PD.flat fs
def PD.rows : List PD → List (List T)
  | [] => []
  | x :: xs => x.cells :: PD.rows xs
def PD.flat : List PD → List T
  | [] => []
  | x :: xs => x.cells ++ PD.flat xs
end
theorem PD.rows_map (xs : List PD) : PD.rows xs = xs.map PD.cells := by
  induction xs with
  | nil => rfl
  | cons x xs ih => rw [PD.rows, ih]; rfl
theorem repAll_append {w : World} {A : Nat → Prop} : ∀ {t1 t2 : List T} {v1 v2 : List Value}, RepAll w A t1 v1 → RepAll w A t2 v2 → RepAll w A (t1 ++ t2) (v1 ++ v2)
  | [], _, v1, _, h, k => by unfold RepAll at h; subst h; exact k
  | t :: ts, _, v1, _, h, k => by
    unfold RepAll at h
    obtain ⟨v, vs', rfl, h1, h2⟩ := h
    rw [List.cons_append, List.cons_append]
    unfold RepAll
    exact ⟨v, _, rfl, h1, repAll_append h2 k⟩
theorem repAll_one {w : World} {A : Nat → Prop} {t : T} {v : Value} (h : RepV w A t v) : RepAll w A [t] [v] := by
  unfold RepAll
  exact ⟨v, [], rfl, h, by unfold RepAll; rfl⟩
/-- The fields lie one behind the other, from offset o to n, their types among ok. -/
def fieldsOk (P : Program) (ok : TypeId → Bool) : List Field → Nat → Nat → Bool
  | [], o, n => o == n
  | f :: fs, o, n => f.offset == o && ok f.type && fieldsOk P ok fs (o + P.cellsOf f.type) n
/-- A type of plain data: int, bool, string, slice, struct. -/
def typeOk (P : Program) (ok : TypeId → Bool) (t : TypeId) : Bool :=
  match P.underlying t with
  | some (.int k) => k == .i64
  | some .bool | some .string => true
  | some (.slice e) => ok e && decide (0 < P.cellsOf e)
  | some (.struct fs) => fieldsOk P ok fs.toList 0 (P.cellsOf t)
  | _ => false

mutual
/-- The datum is of the type. -/
def Shape (P : Program) : TypeId → PD → Prop
  | t, .int _ => P.underlying t = some (.int .i64)
  | t, .bool _ => P.underlying t = some .bool
  | t, .str _ => P.underlying t = some .string
  | t, .sl sz xs => ∃ e, P.underlying t = some (.slice e) ∧ sz = P.cellsOf e ∧ ShapeL P e xs
  | t, .st fs => ∃ fl, P.underlying t = some (.struct fl) ∧ ShapeF P (fl.toList.map (·.type)) fs
def ShapeL (P : Program) : TypeId → List PD → Prop
  | _, [] => True
  | e, x :: xs => Shape P e x ∧ ShapeL P e xs
def ShapeF (P : Program) : List TypeId → List PD → Prop
  | ts, [] => ts = []
  | ts, x :: xs => ∃ t ts', ts = t :: ts' ∧ Shape P t x ∧ ShapeF P ts' xs
end

theorem ShapeL.of_mem {P : Program} {e : TypeId} : ∀ {xs : List PD}, (∀ x ∈ xs, Shape P e x) → ShapeL P e xs
  | [], _ => by simp [ShapeL]
  | x :: xs, h => by rw [ShapeL]; exact ⟨h x (by simp), ShapeL.of_mem fun y hy => h y (by simp [hy])⟩
theorem ShapeL.mem {P : Program} {e : TypeId} : ∀ {xs : List PD}, ShapeL P e xs → ∀ x ∈ xs, Shape P e x
  | [], _, x, hx => by simp at hx
  | y :: xs, h, x, hx => by
    rw [ShapeL] at h
    rcases List.mem_cons.1 hx with rfl | hx
    · exact h.1
    · exact ShapeL.mem h.2 x hx

theorem build_list {α : Type} (n : Nat) (p : Nat → α → Prop) (h : ∀ i, i < n → ∃ a, p i a) : ∃ l : List α, l.length = n ∧ ∀ i (hi : i < l.length), p i l[i] := by
  induction n with
  | zero => exact ⟨[], rfl, fun i hi => by simp at hi⟩
  | succ n ih =>
    obtain ⟨l, h1, h2⟩ := ih fun i hi => h i (by omega)
    obtain ⟨a, ha⟩ := h n (by omega)
    refine ⟨l ++ [a], by simp [h1], fun i hi => ?_⟩
    rcases Nat.lt_or_ge i l.length with hl | hl
    · rw [List.getElem_append_left hl]; exact h2 i hl
    · have : i = n := by simp at hi; omega
      subst this
      rw [List.getElem_append_right (by omega)]
      simpa [h1] using ha

section
variable {H : Type} {enc : TypeId × Value → H} {P : Program} {w : World} {ok : TypeId → Bool}

theorem rep_fields {n : Nat} (ih : ∀ t cs x, ok t = true → DataW.trod enc P w 0 (fun _ => true) true n t cs = some x → ∃ d : PD, RepAll w (· < w.heap.size) d.cells cs ∧ Shape P t d) : ∀ (fs : List Field) (o m : Nat) (cs : List Value), fieldsOk P ok fs o m = true → cs.length = m →
    (∀ f ∈ fs, ∃ x, DataW.trod enc P w 0 (fun _ => true) true n f.type ((cs.drop f.offset).take (P.cellsOf f.type)) = some x) → ∃ ds : List PD, RepAll w (· < w.heap.size) (PD.flat ds) (cs.drop o) ∧ ShapeF P (fs.map (·.type)) ds
  | [], o, m, cs, h, hl, _ => by
    rw [fieldsOk, beq_iff_eq] at h
    exact ⟨[], by rw [PD.flat, List.drop_of_length_le (by omega)]; unfold RepAll; rfl, by rw [List.map_nil, ShapeF]⟩
  | f :: fs, o, m, cs, h, hl, hx => by
    rw [fieldsOk, Bool.and_eq_true, Bool.and_eq_true, beq_iff_eq] at h
    obtain ⟨⟨h1, h2⟩, h3⟩ := h
    obtain ⟨x, hx0⟩ := hx f (by simp)
    obtain ⟨d, hd1, hd2⟩ := ih _ _ _ h2 hx0
    obtain ⟨ds, hs1, hs2⟩ := rep_fields ih fs _ m cs h3 hl fun g hg => hx g (by simp [hg])
    refine ⟨d :: ds, ?_, ?_⟩
    · rw [PD.flat]
      have := repAll_append hd1 hs1
      rw [h1, ← List.drop_drop, List.take_append_drop] at this
      exact this
    · rw [List.map_cons, ShapeF]
      exact ⟨_, _, rfl, hd2, hs2⟩

/-- An argument's reading by the row is a reading of a plain tree. -/
theorem rep_of_trod (hclosed : ∀ t, ok t = true → typeOk P ok t = true) : ∀ (fuel : Nat) (t : TypeId) (cs : List Value) (x : DataW H × List MemPlace), ok t = true → DataW.trod enc P w 0 (fun _ => true) true fuel t cs = some x →
    ∃ d : PD, RepAll w (· < w.heap.size) d.cells cs ∧ Shape P t d := by
  intro fuel
  induction fuel with
  | zero => intro t cs x _ h; simp [DataW.trod] at h
  | succ n ih =>
    intro t cs x hok h
    have ht := hclosed t hok
    unfold typeOk at ht
    split at ht
    · rename_i k hu
      have hk : k = .i64 := by simpa using ht
      subst hk
      obtain ⟨z, rfl, rfl, hw⟩ := DataW.trod_int hu h
      refine ⟨.int z, ?_, ?_⟩
      · rw [PD.cells]
        refine repAll_one ?_
        unfold RepV
        simp [Lit.wf, IntKind.min, IntKind.max, IntKind.bits, IntKind.signed] at hw
        have m1 : IntKind.min .i64 = -9223372036854775808 := by decide
        have m2 : IntKind.max .i64 = 9223372036854775807 := by decide
        exact ⟨rfl, by omega, by omega⟩
      · rw [Shape]; exact hu
    · rename_i hu
      obtain ⟨b, rfl, rfl⟩ := DataW.trod_bool hu h
      exact ⟨.bool b, by rw [PD.cells]; exact repAll_one (by unfold RepV; rfl), by rw [Shape]; exact hu⟩
    · rename_i hu
      obtain ⟨s, rfl, rfl, hs⟩ := DataW.trod_string hu h
      unfold maxLen at hs
      have hz : s.data.toList.length = s.size := by rw [Array.length_toList]; rfl
      refine ⟨.str s.data.toList, ?_, by rw [Shape]; exact hu⟩
      rw [PD.cells]
      refine repAll_one ?_
      unfold RepV
      exact ⟨rfl, by rw [hz]; omega⟩
    · rename_i e hu
      rw [Bool.and_eq_true, decide_eq_true_eq] at ht
      obtain ⟨he, hc⟩ := ht
      rcases DataW.trod_slice hu h with ⟨rfl, _⟩ | ⟨a, len, cap, elems, rest, m, hm, rfl, _, _, hl, hcap, hel, hat, _⟩
      · refine ⟨.sl (P.cellsOf e) [], ?_, ?_⟩
        · rw [PD.cells, PD.rows]
          refine repAll_one ?_
          unfold RepV
          exact ⟨none, 0, rfl, Nat.le_refl _, by omega, Or.inl rfl⟩
        · rw [Shape]; exact ⟨e, hu, rfl, by rw [ShapeL]; trivial⟩
      · obtain rfl : n = m := by omega
        unfold maxLen at hcap
        have hone : ∀ i, i < len → ∃ p : PD × List Value, p.2.length = P.cellsOf e ∧ (∀ j, j < P.cellsOf e → w.cell? ((a.add (i * P.cellsOf e)).add j) = p.2[j]?) ∧ RepAll w (· < w.heap.size) p.1.cells p.2 ∧ Shape P e p.1 := by
          intro i hi
          have h1 := hat i hi
          rw [List.getElem?_eq_getElem (by omega)] at h1
          obtain ⟨cs', hc1, hc2⟩ := Option.bind_eq_some_iff.1 h1
          obtain ⟨_, hlen, hcell⟩ := World.cells?_some hc1
          obtain ⟨d, hd1, hd2⟩ := ih e cs' _ he hc2
          exact ⟨(d, cs'), hlen, hcell, hd1, hd2⟩
        obtain ⟨l, hl1, hl2⟩ := build_list len _ hone
        refine ⟨.sl (P.cellsOf e) (l.map (·.1)), ?_, ?_⟩
        · rw [PD.cells, PD.rows_map]
          refine repAll_one ?_
          unfold RepV
          refine ⟨some a, cap, by simp [hl1], by simp; omega, by omega, ?_⟩
          by_cases hz : len = 0
          · left; rw [List.eq_nil_of_length_eq_zero (by omega : l.length = 0)]; rfl
          · right
            have h0 := hl2 0 (by omega)
            have hcell0 := h0.2.1 0 hc
            rw [List.getElem?_eq_getElem (by rw [h0.1]; exact hc)] at hcell0
            simp only [Nat.zero_mul, Addr.add, if_true] at hcell0
            have hsp : a.spot = none ∧ a.block < w.heap.size := by
              unfold World.cell? at hcell0
              split at hcell0
              · rename_i hb
                refine ⟨?_, (Array.getElem?_eq_some_iff.1 hb).1⟩
                cases hs : a.spot with
                | none => rfl
                | some s => simp [hs] at hcell0
              · cases hcell0
            obtain ⟨b, o, sp⟩ := a
            simp only at hsp
            obtain ⟨rfl, hlt⟩ := hsp
            refine ⟨b, o, rfl, hlt, RepRows.mk fun i r hi => ?_⟩
            simp only [List.getElem?_map, Option.map_eq_some_iff] at hi
            obtain ⟨y, ⟨p, hp, rfl⟩, rfl⟩ := hi
            obtain ⟨hi', rfl⟩ := List.getElem?_eq_some_iff.1 hp
            have h1 := hl2 i hi'
            refine ⟨h1.2.2.1.len ▸ h1.1, RepAt.mk fun j c hj => ?_⟩
            obtain ⟨v, hv1, hv2⟩ := h1.2.2.1.at j c hj
            refine ⟨v, ?_, hv2⟩
            have hjj : j < P.cellsOf e := by
              have := (List.getElem?_eq_some_iff.1 hv1).1
              rw [h1.1] at this; exact this
            rw [← hv1, ← h1.2.1 j hjj]
            congr 1
            simp only [Addr.add]
            split <;> split <;> simp_all [Nat.add_assoc]
        · rw [Shape]
          refine ⟨e, hu, rfl, ShapeL.of_mem fun x hx => ?_⟩
          obtain ⟨y, hy, rfl⟩ := List.mem_map.1 hx
          obtain ⟨i, hi, rfl⟩ := List.mem_iff_getElem.1 hy
          exact (hl2 i hi).2.2.2
    · rename_i fs hu
      obtain ⟨xs, m, hm, _, hlen, hxs, hf⟩ := DataW.trod_struct hu h
      obtain rfl : n = m := by omega
      obtain ⟨ds, h1, h2⟩ := rep_fields ih fs.toList 0 (P.cellsOf t) cs ht hlen fun f hfm => by
        obtain ⟨i, hi, rfl⟩ := List.mem_iff_getElem.1 hfm
        have := hf i fs[i] (by simp at hi; simp [hi])
        refine ⟨xs[i]'(by simp at hi; omega), ?_⟩
        rw [List.getElem?_eq_getElem (by simp at hi; omega)] at this
        simpa using this
      refine ⟨.st ds, ?_, ?_⟩
      · rw [PD.cells]; simpa using h1
      · rw [Shape]; exact ⟨fs, hu, by simpa using h2⟩
    · cases ht
end

theorem Shape.int {P : Program} {t : TypeId} {d : PD} (h : Shape P t d) (hu : P.underlying t = some (.int .i64)) : ∃ n, d = .int n := by
  cases d with
  | int n => exact ⟨n, rfl⟩
  | bool b => rw [Shape, hu] at h; cases h
  | str s => rw [Shape, hu] at h; cases h
  | sl sz xs => rw [Shape] at h; obtain ⟨e, h1, _⟩ := h; rw [hu] at h1; cases h1
  | st fs => rw [Shape] at h; obtain ⟨e, h1, _⟩ := h; rw [hu] at h1; cases h1
theorem Shape.bool {P : Program} {t : TypeId} {d : PD} (h : Shape P t d) (hu : P.underlying t = some .bool) : ∃ n, d = .bool n := by
  cases d with
  | int n => rw [Shape, hu] at h; cases h
  | bool b => exact ⟨b, rfl⟩
  | str s => rw [Shape, hu] at h; cases h
  | sl sz xs => rw [Shape] at h; obtain ⟨e, h1, _⟩ := h; rw [hu] at h1; cases h1
  | st fs => rw [Shape] at h; obtain ⟨e, h1, _⟩ := h; rw [hu] at h1; cases h1
theorem Shape.str {P : Program} {t : TypeId} {d : PD} (h : Shape P t d) (hu : P.underlying t = some .string) : ∃ n, d = .str n := by
  cases d with
  | int n => rw [Shape, hu] at h; cases h
  | bool b => rw [Shape, hu] at h; cases h
  | str s => exact ⟨s, rfl⟩
  | sl sz xs => rw [Shape] at h; obtain ⟨e, h1, _⟩ := h; rw [hu] at h1; cases h1
  | st fs => rw [Shape] at h; obtain ⟨e, h1, _⟩ := h; rw [hu] at h1; cases h1
theorem Shape.sl {P : Program} {t e : TypeId} {d : PD} (h : Shape P t d) (hu : P.underlying t = some (.slice e)) : ∃ xs, d = .sl (P.cellsOf e) xs ∧ ∀ x ∈ xs, Shape P e x := by
  cases d with
  | int n => rw [Shape, hu] at h; cases h
  | bool b => rw [Shape, hu] at h; cases h
  | str s => rw [Shape, hu] at h; cases h
  | sl sz xs =>
    rw [Shape] at h
    obtain ⟨e', h1, h2, h3⟩ := h
    rw [hu] at h1
    cases h1
    exact ⟨xs, by rw [h2], h3.mem⟩
  | st fs => rw [Shape] at h; obtain ⟨e, h1, _⟩ := h; rw [hu] at h1; cases h1
theorem Shape.st {P : Program} {t : TypeId} {fl : Array Field} {d : PD} (h : Shape P t d) (hu : P.underlying t = some (.struct fl)) : ∃ fs, d = .st fs ∧ ShapeF P (fl.toList.map (·.type)) fs := by
  cases d with
  | int n => rw [Shape, hu] at h; cases h
  | bool b => rw [Shape, hu] at h; cases h
  | str s => rw [Shape, hu] at h; cases h
  | sl sz xs => rw [Shape] at h; obtain ⟨e, h1, _⟩ := h; rw [hu] at h1; cases h1
  | st fs => rw [Shape] at h; obtain ⟨e, h1, h2⟩ := h; rw [hu] at h1; cases h1; exact ⟨fs, rfl, h2⟩

/-- A list whose members are all of a form. -/
theorem list_form {α : Type} (f : α → PD) : ∀ (xs : List PD), (∀ x ∈ xs, ∃ a, x = f a) → ∃ l : List α, xs = l.map f
  | [], _ => ⟨[], rfl⟩
  | x :: xs, h => by
    obtain ⟨a, rfl⟩ := h x (by simp)
    obtain ⟨l, rfl⟩ := list_form f xs fun y hy => h y (by simp [hy])
    exact ⟨a :: l, rfl⟩

end Go.Proofs.Ytfppgpojemdijaa
/-
  Contracts of functions of the program and of its laws, over plain data.
  Conditions: those that each theorem names.
-/
namespace Go.Proofs.Ytfppgpojemdijaa
set_option linter.unusedSimpArgs false
set_option linter.unusedVariables false
set_option linter.unusedSectionVars false
set_option maxRecDepth 4000
open Go.RowKit
theorem ShapeF.cons {P : Program} {t : TypeId} {ts : List TypeId} {xs : List PD} (h : ShapeF P (t :: ts) xs) : ∃ x xs', xs = x :: xs' ∧ Shape P t x ∧ ShapeF P ts xs' := by
  cases xs with
  | nil => rw [ShapeF] at h; cases h
  | cons x xs =>
    rw [ShapeF] at h
    obtain ⟨t', ts', e, h1, h2⟩ := h
    cases e
    exact ⟨x, xs, rfl, h1, h2⟩
theorem ShapeF.nil {P : Program} {xs : List PD} (h : ShapeF P [] xs) : xs = [] := by
  cases xs with
  | nil => rfl
  | cons x xs =>
    rw [ShapeF] at h
    obtain ⟨t', ts', e, _⟩ := h
    cases e
theorem pd_strong {Q : PD → Prop} (h : ∀ d, (∀ d', SizeOf.sizeOf d' < SizeOf.sizeOf d → Q d') → Q d) (d : PD) : Q d := by
  have : ∀ n (d : PD), SizeOf.sizeOf d < n → Q d := by
    intro n
    induction n with
    | zero => intro d hd; omega
    | succ n ih => intro d hd; exact h d fun d' hd' => ih d' (by omega)
  exact this _ d (Nat.lt_succ_self _)
theorem list_cells {α : Type} (c : α → List T) : ∀ (xs : List PD), (∀ x ∈ xs, ∃ a, x.cells = c a) → ∃ l : List α, PD.rows xs = l.map c
  | [], _ => ⟨[], rfl⟩
  | x :: xs, h => by
    obtain ⟨a, ha⟩ := h x (by simp)
    obtain ⟨l, hl⟩ := list_cells c xs fun y hy => h y (by simp [hy])
    exact ⟨a :: l, by rw [PD.rows, ha, hl]; rfl⟩
theorem sh_term : ∀ d, Shape Try.prog 24 d → ∃ a : Tm, d.cells = tmC a :=
  pd_strong fun d ih h => by
    obtain ⟨fs, rfl, hf⟩ := h.st Try.underlying24
    have hf : ShapeF Try.prog [9, 22] fs := hf
    obtain ⟨x1, r1, rfl, h1, hf⟩ := hf.cons
    obtain ⟨x2, r2, rfl, h2, hf⟩ := hf.cons
    obtain rfl := hf.nil
    obtain ⟨n, rfl⟩ := h1.str Try.underlying9
    obtain ⟨xs, rfl, hx⟩ := h2.sl Try.underlying22
    obtain ⟨l, hl⟩ := list_cells tmC xs fun x hx' => ih x (by have := List.sizeOf_lt_of_mem hx'; simp; omega) (hx x hx')
    exact ⟨.mk n l, by
      rw [tmC_eq, PD.cells, PD.flat, PD.flat, PD.flat, PD.cells, PD.cells, hl, show Try.prog.cellsOf 24 = 2 from by kernel_rfl]; rfl⟩
theorem sh_terms {d : PD} (h : Shape Try.prog 22 d) : ∃ l : List Tm, d.cells = [tmS l] := by
  obtain ⟨xs, rfl, hx⟩ := h.sl Try.underlying22
  obtain ⟨l, hl⟩ := list_cells tmC xs fun x hx' => sh_term x (hx x hx')
  exact ⟨l, by rw [PD.cells, hl, show Try.prog.cellsOf 24 = 2 from by kernel_rfl]⟩
theorem sh_formula : ∀ d, Shape Try.prog 27 d → ∃ a : Fm, d.cells = fmC a :=
  pd_strong fun d ih h => by
    obtain ⟨fs, rfl, hf⟩ := h.st Try.underlying27
    have hf : ShapeF Try.prog [3, 24, 9, 25] fs := hf
    obtain ⟨x1, r1, rfl, h1, hf⟩ := hf.cons
    obtain ⟨x2, r2, rfl, h2, hf⟩ := hf.cons
    obtain ⟨x3, r3, rfl, h3, hf⟩ := hf.cons
    obtain ⟨x4, r4, rfl, h4, hf⟩ := hf.cons
    obtain rfl := hf.nil
    obtain ⟨o, rfl⟩ := h1.int Try.underlying3
    obtain ⟨a, ha⟩ := sh_term _ h2
    obtain ⟨v, rfl⟩ := h3.str Try.underlying9
    obtain ⟨xs, rfl, hx⟩ := h4.sl Try.underlying25
    obtain ⟨l, hl⟩ := list_cells fmC xs fun x hx' => ih x (by have := List.sizeOf_lt_of_mem hx'; simp; omega) (hx x hx')
    exact ⟨.mk o a v l, by
      rw [fmC_eq, PD.cells, PD.flat, PD.flat, PD.flat, PD.flat, PD.flat, PD.cells, PD.cells, PD.cells, hl, ha, tmC_eq, show Try.prog.cellsOf 27 = 5 from by kernel_rfl]; rfl⟩
theorem sh_formulas {d : PD} (h : Shape Try.prog 25 d) : ∃ l : List Fm, d.cells = [fmS l] := by
  obtain ⟨xs, rfl, hx⟩ := h.sl Try.underlying25
  obtain ⟨l, hl⟩ := list_cells fmC xs fun x hx' => sh_formula x (hx x hx')
  exact ⟨l, by rw [PD.cells, hl, show Try.prog.cellsOf 27 = 5 from by kernel_rfl]⟩
end Go.Proofs.Ytfppgpojemdijaa
/-
  FnExactIsHerbrandFormula returns true for all arguments, and its arguments read afterwards as they read before.
  Conditions: none.
-/
namespace Go.Proofs.Ytfppgpojemdijaa
set_option linter.unusedSimpArgs false
set_option linter.unusedVariables false
set_option linter.unusedSectionVars false
set_option maxRecDepth 4000
open Go.ChangeShapes Go.WideShapes Go.ChangeAt Go.RowKit
theorem rhf_own : ownKnob Try.prog.godebug = none := by kernel_rfl
theorem rhf_laidOut : laidOutB Try.prog = true := by kernel_rfl
def rhfTypes (t : TypeId) : Bool := t == 3 || t == 9 || t == 24 || t == 22 || t == 27 || t == 25
theorem rhfTypes_ok : ∀ t, rhfTypes t = true → typeOk Try.prog rhfTypes t = true := by
  intro t h
  simp only [rhfTypes, Bool.or_eq_true, beq_iff_eq] at h
  rcases h with ((((rfl | rfl) | rfl) | rfl) | rfl) | rfl <;> kernel_rfl
set_option maxRecDepth 100000 in
theorem rhf_lifted (os : Os) (started : os.Started) (H : Type) (enc : TypeId × Value → H) :
    ReturnsInHanded {} Try.checked os 3 .any (Rows.fnExactIsHerbrandFormulaSpec.pre6 enc Try.prog Try.f3 Rows.fnExactIsHerbrandFormulaRow.domain false)
      (Rows.fnExactIsHerbrandFormulaSpec.post enc Try.prog Try.f3 false true false false) := by
  refine returnsInHanded_of_change (C := Try.checked) rhf_own started (by kernel_rfl) Try.func3
    (ChangeSpec.witness6 (enc := enc) (C := Try.checked) false ⟨#[], #[.agg #[.int .i64 0, .string .empty, .slice none 0 0, .string .empty, .slice none 0 0]], []⟩ 8 (by kernel_rfl) (by kernel_rfl) (by kernel_rfl) (by kernel_rfl)) ?_
  intro W base args ds gs before hval0 hW hcnd _
  have hval : ∀ (j : Nat) t v, Try.f3.params[j]? = some t → args[j]? = some v → Value.okWide Try.prog W .any base t v := hval0
  have hW' := hW
  obtain ⟨p, q, hA0, hV, rfl, hfz, hnd⟩ := hW
  have hA : DataW.TrodAll enc Try.prog W 0 (fun _ => true) true Try.f3.params.toList args.toList ds p := hA0
  rw [Try.params3] at hA hval
  obtain ⟨v0, vs0, d0, ds0, p0, q0, hargs, rfl, rfl, h0, r0⟩ := trodAll_cons hA
  obtain ⟨rfl, rfl, rfl⟩ := trodAll_nil r0
  obtain rfl : args = #[v0] := by cases args; simp_all
  obtain ⟨rfl, rfl⟩ := trodVars_none hV
  have k0 := h0
  have lt0 : ∀ x ∈ p0, x.block < W.heap.size := by obtain ⟨m, hm⟩ := k0; exact DataW.trod_lt m _ _ _ hm
  obtain ⟨cs0, rfl, _⟩ := okWide_struct Try.underlying27 (hval 0 27 v0 rfl rfl)
  obtain ⟨s, hs⟩ : ∃ s : Fm, RepDs W (· < W.heap.size) [fmD s] [.agg cs0] := by
    obtain ⟨m, hm⟩ := h0
    obtain ⟨d, hr, hs⟩ := rep_of_trod rhfTypes_ok m _ _ _ (by rfl) hm
    obtain ⟨s, e⟩ := sh_formula _ hs
    exact ⟨s, _, [], rfl, ⟨cs0.toList, rfl, e ▸ hr⟩, rfl⟩
  clear hA0 hval0
  refine ((lawIsHerbrand_c s).use (vs := [.agg cs0]) hs).mono fun e W' ⟨us, fp, he, ho, _, _, bel⟩ => ?_
  obtain ⟨u, us', f1, f2, rfl, _, ⟨rfl, _⟩, hu⟩ := ho
  obtain ⟨rfl, _⟩ := hu
  subst he
  exact ⟨_, rfl, _, _, _, [], _, [], hW', trodAll_mk1 (shut_bool Try.underlying4 _),
    (trodAll_cons_mk (Below.trod rhf_laidOut (by kernel_rfl) (of_decide_eq_true (by kernel_rfl)) k0 bel lt0) trodAll_mk0), rfl, bel.frame _, fun h => by cases h⟩

theorem isHerbrandFormula_holds : Rows.FnExactIsHerbrandFormulaSaid :=
  OpenClaim.holds_of_wide 3 Try.f3 rfl rfl rfl rfl rfl rfl rfl ⟨rfl, rfl, rfl, rfl, rfl⟩ rfl rfl rfl rfl rfl (by kernel_rfl) Try.func3 (by kernel_rfl)
    (of_decide_eq_true (by kernel_rfl)) (by unfold Func.isWrapper; rw [if_neg (of_decide_eq_false (by kernel_rfl))]; exact ⟨rfl, rfl⟩)
    (fun os started H enc _ => rhf_lifted os started H enc)
#print axioms isHerbrandFormula_holds
end Go.Proofs.Ytfppgpojemdijaa
