/-
  Contracts of functions of the program and of its laws, over plain data.
  Conditions: those that each theorem names.
-/
import Derived.Test.YtgfjbbbkploonaaTr
import Derived.Test.YtgfjbbbkploonaaDt
namespace Go.Proofs.Ytgfjbbbkploonaa
set_option linter.unusedSimpArgs false
set_option linter.unusedVariables false
open Go.RowKit
theorem ShapeF.cons {P : Program} {t : TypeId} {ts : List TypeId} {xs : List PD} (h : ShapeF P (t :: ts) xs) : ∃ x xs', xs = x :: xs' ∧ Shape P t x ∧ ShapeF P ts xs' := by
  cases xs with
  | nil => rw [ShapeF] at h; cases h
  | cons x xs =>
    rw [ShapeF] at h
    obtain ⟨t', ts', e, h1, h2⟩ := h
    cases e
    exact ⟨x, xs, rfl, h1, h2⟩
theorem ShapeF.nil {P : Program} {xs : List PD} (h : ShapeF P [] xs) : xs = [] := by
  cases xs with
  | nil => rfl
  | cons x xs =>
    rw [ShapeF] at h
    obtain ⟨t', ts', e, _⟩ := h
    cases e
theorem pd_strong {Q : PD → Prop} (h : ∀ d, (∀ d', SizeOf.sizeOf d' < SizeOf.sizeOf d → Q d') → Q d) (d : PD) : Q d := by
  have : ∀ n (d : PD), SizeOf.sizeOf d < n → Q d := by
    intro n
    induction n with
    | zero => intro d hd; omega
    | succ n ih => intro d hd; exact h d fun d' hd' => ih d' (by omega)
  exact this _ d (Nat.lt_succ_self _)
theorem list_cells {α : Type} (c : α → List T) : ∀ (xs : List PD), (∀ x ∈ xs, ∃ a, x.cells = c a) → ∃ l : List α, PD.rows xs = l.map c
  | [], _ => ⟨[], rfl⟩
  | x :: xs, h => by
    obtain ⟨a, ha⟩ := h x (by simp)
    obtain ⟨l, hl⟩ := list_cells c xs fun y hy => h y (by simp [hy])
    exact ⟨a :: l, by rw [PD.rows, ha, hl]; rfl⟩
theorem sh_term : ∀ d, Shape Try.prog 47 d → ∃ a : Tm, d.cells = tmC a :=
  pd_strong fun d ih h => by
    obtain ⟨fs, rfl, hf⟩ := h.st Try.underlying47
    have hf : ShapeF Try.prog [9, 45] fs := hf
    obtain ⟨x1, r1, rfl, h1, hf⟩ := hf.cons
    obtain ⟨x2, r2, rfl, h2, hf⟩ := hf.cons
    obtain rfl := hf.nil
    obtain ⟨n, rfl⟩ := h1.str Try.underlying9
    obtain ⟨xs, rfl, hx⟩ := h2.sl Try.underlying45
    obtain ⟨l, hl⟩ := list_cells tmC xs fun x hx' => ih x (by have := List.sizeOf_lt_of_mem hx'; simp; omega) (hx x hx')
    exact ⟨.mk n l, by
      rw [tmC_eq, PD.cells, PD.flat, PD.flat, PD.flat, PD.cells, PD.cells, hl, show Try.prog.cellsOf 47 = 2 from by kernel_rfl]; rfl⟩
theorem sh_terms {d : PD} (h : Shape Try.prog 45 d) : ∃ l : List Tm, d.cells = [tmS l] := by
  obtain ⟨xs, rfl, hx⟩ := h.sl Try.underlying45
  obtain ⟨l, hl⟩ := list_cells tmC xs fun x hx' => sh_term x (hx x hx')
  exact ⟨l, by rw [PD.cells, hl, show Try.prog.cellsOf 47 = 2 from by kernel_rfl]⟩
theorem sh_formula : ∀ d, Shape Try.prog 49 d → ∃ a : Fm, d.cells = fmC a :=
  pd_strong fun d ih h => by
    obtain ⟨fs, rfl, hf⟩ := h.st Try.underlying49
    have hf : ShapeF Try.prog [3, 47, 9, 22] fs := hf
    obtain ⟨x1, r1, rfl, h1, hf⟩ := hf.cons
    obtain ⟨x2, r2, rfl, h2, hf⟩ := hf.cons
    obtain ⟨x3, r3, rfl, h3, hf⟩ := hf.cons
    obtain ⟨x4, r4, rfl, h4, hf⟩ := hf.cons
    obtain rfl := hf.nil
    obtain ⟨o, rfl⟩ := h1.int Try.underlying3
    obtain ⟨a, ha⟩ := sh_term _ h2
    obtain ⟨v, rfl⟩ := h3.str Try.underlying9
    obtain ⟨xs, rfl, hx⟩ := h4.sl Try.underlying22
    obtain ⟨l, hl⟩ := list_cells fmC xs fun x hx' => ih x (by have := List.sizeOf_lt_of_mem hx'; simp; omega) (hx x hx')
    exact ⟨.mk o a v l, by
      rw [fmC_eq, PD.cells, PD.flat, PD.flat, PD.flat, PD.flat, PD.flat, PD.cells, PD.cells, PD.cells, hl, ha, tmC_eq, show Try.prog.cellsOf 49 = 5 from by kernel_rfl]; rfl⟩
theorem sh_formulas {d : PD} (h : Shape Try.prog 22 d) : ∃ l : List Fm, d.cells = [fmS l] := by
  obtain ⟨xs, rfl, hx⟩ := h.sl Try.underlying22
  obtain ⟨l, hl⟩ := list_cells fmC xs fun x hx' => sh_formula x (hx x hx')
  exact ⟨l, by rw [PD.cells, hl, show Try.prog.cellsOf 49 = 5 from by kernel_rfl]⟩
theorem sh_sequent {d : PD} (h : Shape Try.prog 24 d) : ∃ a : Sq, d.cells = sqC a := by
  obtain ⟨fs, rfl, hf⟩ := h.st Try.underlying24
  have hf : ShapeF Try.prog [22, 22] fs := hf
  obtain ⟨x1, r1, rfl, h1, hf⟩ := hf.cons
  obtain ⟨x2, r2, rfl, h2, hf⟩ := hf.cons
  obtain rfl := hf.nil
  obtain ⟨l1, e1⟩ := sh_formulas h1
  obtain ⟨l2, e2⟩ := sh_formulas h2
  exact ⟨⟨l1, l2⟩, by rw [PD.cells, PD.flat, PD.flat, PD.flat, e1, e2]; rfl⟩
end Go.Proofs.Ytgfjbbbkploonaa
