/-
  The walk over plain data, and contracts of functions of the program and of its laws.
  Conditions: those that each theorem names.
-/
import Derived.Test.YtbccfiillleimaaGreatQ4
import Derived.Test.YtbccfiillleimaaGreatQ1
import Derived.Sort.OwnSorted
import Derived.Sort.KeysCollected
import Derived.Sort.Walk0
import Derived.Laws.AppendOwn
import Derived.Shelf.Sort.Plain
import Derived.Shelf.Slices.In.SortNone
import Derived.Shelf.Slices.CompactS
import Derived.Lib.SliceRun
namespace Go.Proofs.YtbccfiillleimaaGreat
set_option linter.unusedSimpArgs false
set_option linter.unusedVariables false
set_option linter.unusedSectionVars false
set_option maxRecDepth 4000
open Go.RowKit
abbrev Str := List UInt8
inductive Tm where
 | mk (name : Str) (args : List Tm)
def Tm.name : Tm → Str | .mk n _ => n
def Tm.args : Tm → List Tm | .mk _ xs => xs
theorem Tm.eta : ∀ a : Tm, Tm.mk a.name a.args = a | .mk _ _ => rfl
mutual
theorem tm_ind {P : Tm → Prop} (h : ∀ n xs, (∀ x ∈ xs, P x) → P (.mk n xs)) : ∀ a, P a
 | .mk n xs => h n xs (tm_inds h xs)
theorem tm_inds {P : Tm → Prop} (h : ∀ n xs, (∀ x ∈ xs, P x) → P (.mk n xs)) : ∀ xs : List Tm, ∀ x ∈ xs, P x
 | [], x, hx => absurd hx (by simp)
 | a :: xs, x, hx => (List.mem_cons.1 hx).elim (fun e => e ▸ tm_ind h a) (tm_inds h xs x)
end
mutual
def Tm.fold {α : Type} (f : Str → List Tm → List α → α) : Tm → α
 | .mk n xs => f n xs (Tm.folds f xs)
def Tm.folds {α : Type} (f : Str → List Tm → List α → α) : List Tm → List α
 | [] => []
 | a :: xs => Tm.fold f a :: Tm.folds f xs
end
theorem Tm.folds_map {α : Type} (f : Str → List Tm → List α → α) (xs : List Tm) : Tm.folds f xs = xs.map (Tm.fold f) := by
 induction xs with
 | nil => rfl
 | cons a xs ih => rw [Tm.folds, ih]; rfl
theorem Tm.fold_eq {α : Type} (f : Str → List Tm → List α → α) (a : Tm) : Tm.fold f a = f a.name a.args (a.args.map (Tm.fold f)) := by
 cases a; rw [Tm.fold, Tm.folds_map]; rfl
inductive Fm where
 | mk (op : Int) (atom : Tm) (var : Str) (parts : List Fm)
def Fm.op : Fm → Int | .mk o _ _ _ => o
def Fm.atom : Fm → Tm | .mk _ a _ _ => a
def Fm.var : Fm → Str | .mk _ _ v _ => v
def Fm.parts : Fm → List Fm | .mk _ _ _ ps => ps
theorem Fm.eta : ∀ a : Fm, Fm.mk a.op a.atom a.var a.parts = a | .mk _ _ _ _ => rfl
mutual
theorem fm_ind {P : Fm → Prop} (h : ∀ o a v ps, (∀ x ∈ ps, P x) → P (.mk o a v ps)) : ∀ f, P f
 | .mk o a v ps => h o a v ps (fm_inds h ps)
theorem fm_inds {P : Fm → Prop} (h : ∀ o a v ps, (∀ x ∈ ps, P x) → P (.mk o a v ps)) : ∀ xs : List Fm, ∀ x ∈ xs, P x
 | [], x, hx => absurd hx (by simp)
 | a :: xs, x, hx => (List.mem_cons.1 hx).elim (fun e => e ▸ fm_ind h a) (fm_inds h xs x)
end
mutual
def Fm.fold {α : Type} (f : Int → Tm → Str → List Fm → List α → α) : Fm → α
 | .mk o a v ps => f o a v ps (Fm.folds f ps)
def Fm.folds {α : Type} (f : Int → Tm → Str → List Fm → List α → α) : List Fm → List α
 | [] => []
 | a :: xs => Fm.fold f a :: Fm.folds f xs
end
theorem Fm.folds_map {α : Type} (f : Int → Tm → Str → List Fm → List α → α) (xs : List Fm) : Fm.folds f xs = xs.map (Fm.fold f) := by
 induction xs with
 | nil => rfl
 | cons a xs ih => rw [Fm.folds, ih]; rfl
theorem Fm.fold_eq {α : Type} (f : Int → Tm → Str → List Fm → List α → α) (a : Fm) : Fm.fold f a = f a.op a.atom a.var a.parts (a.parts.map (Fm.fold f)) := by
 cases a; rw [Fm.fold, Fm.folds_map]; rfl
def tmC : Tm → List T := Tm.fold fun n _ rs => [.str n, .sl 2 rs]
theorem tmC_eq (a : Tm) : tmC a = [.str a.name, .sl 2 (a.args.map tmC)] := Tm.fold_eq _ a
def fmC : Fm → List T := Fm.fold fun o a v _ rs => [.int .i64 o, .str a.name, .sl 2 (a.args.map tmC), .str v, .sl 5 rs]
theorem fmC_eq (a : Fm) : fmC a = [.int .i64 a.op, .str a.atom.name, .sl 2 (a.atom.args.map tmC), .str a.var, .sl 5 (a.parts.map fmC)] := Fm.fold_eq _ a
theorem fmC_mk (o : Int) (a : Tm) (v : Str) (ps : List Fm) : fmC (.mk o a v ps) = [.int .i64 o, .str a.name, .sl 2 (a.args.map tmC), .str v, .sl 5 (ps.map fmC)] := fmC_eq _
abbrev tmD (a : Tm) : D := .agg (tmC a)
abbrev fmD (a : Fm) : D := .agg (fmC a)
abbrev tmS (xs : List Tm) : T := .sl 2 (xs.map tmC)
abbrev fmS (xs : List Fm) : T := .sl 5 (xs.map fmC)
abbrev iD (n : Int) : D := .one (.int .i64 n)
abbrev bD (b : Bool) : D := .one (.bool b)
abbrev sD (s : Str) : D := .one (.str s)
theorem getD_at {α : Type} (f : α → List T) (xs : List α) (k : Nat) (h : k < xs.length) : (xs.map f).getD k [] = f (xs[k]'h) := by simp [List.getD, h]
def Tm.wt : Tm → Nat := Tm.fold fun n xs rs => n.length + xs.length + rs.sum
theorem Tm.wt_eq (a : Tm) : a.wt = a.name.length + a.args.length + (a.args.map Tm.wt).sum := Tm.fold_eq _ a
def Fm.wt : Fm → Nat := Fm.fold fun _ a v ps rs => a.wt + v.length + ps.length + rs.sum
theorem Fm.wt_eq (a : Fm) : a.wt = a.atom.wt + a.var.length + a.parts.length + (a.parts.map Fm.wt).sum := Fm.fold_eq _ a
def tmsW (xs : List Tm) : Nat := xs.length + (xs.map Tm.wt).sum
def fmsW (xs : List Fm) : Nat := xs.length + (xs.map Fm.wt).sum
def szR (w : Nat) (left : Int) : Int := if (w : Int) ≤ left then left - w else -1
def psum {α : Type} (f : α → Nat) (xs : List α) (k : Nat) : Nat := ((xs.take k).map f).sum
theorem psum_zero {α : Type} (f : α → Nat) (xs : List α) : psum f xs 0 = 0 := by simp [psum]
theorem psum_succ {α : Type} (f : α → Nat) (xs : List α) (k : Nat) (h : k < xs.length) : psum f xs (k + 1) = psum f xs k + f xs[k] := by
 unfold psum
 rw [List.take_succ_eq_append_getElem h, List.map_append, List.sum_append]; simp
theorem psum_le {α : Type} (f : α → Nat) (xs : List α) (k : Nat) : psum f xs k ≤ (xs.map f).sum := by
 unfold psum
 conv => rhs; rw [← List.take_append_drop k xs, List.map_append, List.sum_append]
 omega
theorem psum_all {α : Type} (f : α → Nat) (xs : List α) (k : Nat) (h : xs.length ≤ k) : psum f xs k = (xs.map f).sum := by
 unfold psum
 rw [List.take_of_length_le h]
theorem mem_sum {α : Type} (f : α → Nat) (xs : List α) : ∀ x ∈ xs, f x ≤ (xs.map f).sum := by
 induction xs with
 | nil => simp
 | cons a xs ih =>
  intro x hx
  rcases List.mem_cons.1 hx with rfl | hx
  ·simp
  ·have := ih x hx; simp; omega
noncomputable def same {α : Type} (a b : α) : Bool := @decide (a = b) (Classical.propDecidable _)
theorem same_iff {α : Type} {a b : α} : same a b = true ↔ a = b := by simp [same]
theorem same_no {α : Type} {a b : α} : same a b = false ↔ a ≠ b := by simp [same]
theorem same_self {α : Type} (a : α) : same a a = true := by simp [same]
theorem same_cons {α : Type} (a b : α) (xs ys : List α) : same (a :: xs) (b :: ys) = (same a b && same xs ys) := by
 rw [Bool.eq_iff_iff, Bool.and_eq_true, same_iff, same_iff, same_iff, List.cons.injEq]
theorem same_nil {α : Type} : same ([] : List α) [] = true := same_self _
theorem wrap_s {k : Nat} (h : k < 9223372036854775807) : IntKind.i64.wrap ((k : Int) + 1) = ((k + 1 : Nat) : Int) := wrap_succ h
theorem szR_neg {w : Nat} {l : Int} (h0 : 0 ≤ l) (h : szR w l < 0) : l < w := by unfold szR at h; split at h <;> omega
theorem szR_pos {w : Nat} {l : Int} (h : ¬ szR w l < 0) : (w : Int) ≤ l ∧ szR w l = l - w := by
 by_cases hh : (w : Int) ≤ l
 ·exact ⟨hh, if_pos hh⟩
 ·exact absurd (by rw [szR, if_neg hh]; omega) h
theorem szR_big {w : Nat} {l : Int} (h : l < w) : szR w l = -1 := if_neg (by omega)
theorem szR_ok {w : Nat} {l : Int} (h : (w : Int) ≤ l) : szR w l = l - w := if_pos h
theorem int_eq {k : IntKind} {a b : Int} (h : a = b) : T.int k a = T.int k b := h ▸ rfl
theorem fill_next (A : List (List T)) (n k : Nat) (z ts : List T) (hA : A.length = k) (hk : k < n) (hz : ts.length = z.length) : setRw (A ++ List.replicate (n - k) z) k 0 ts = A ++ [ts] ++ List.replicate (n - (k + 1)) z := by
 subst hA
 have e : List.replicate (n - A.length) z = z :: List.replicate (n - (A.length + 1)) z := by
  rw [show n - A.length = (n - (A.length + 1)) + 1 by omega]; rfl
 unfold setRw
 rw [e]
 simp [setR_full _ _ hz]
end Go.Proofs.YtbccfiillleimaaGreat
namespace Go.Proofs.YtbccfiillleimaaGreat
set_option linter.unusedSimpArgs false
set_option linter.unusedVariables false
set_option linter.unusedSectionVars false
set_option maxRecDepth 4000
open Go.RowKit
theorem ShapeF.cons {P : Program} {t : TypeId} {ts : List TypeId} {xs : List PD} (h : ShapeF P (t :: ts) xs) : ∃ x xs', xs = x :: xs' ∧ Shape P t x ∧ ShapeF P ts xs' := by
 cases xs with
 | nil => rw [ShapeF] at h; cases h
 | cons x xs =>
  rw [ShapeF] at h
  obtain ⟨t', ts', e, h1, h2⟩ := h
  cases e
  exact ⟨x, xs, rfl, h1, h2⟩
theorem ShapeF.nil {P : Program} {xs : List PD} (h : ShapeF P [] xs) : xs = [] := by
 cases xs with
 | nil => rfl
 | cons x xs =>
  rw [ShapeF] at h
  obtain ⟨t', ts', e, _⟩ := h
  cases e
theorem pd_strong {Q : PD → Prop} (h : ∀ d, (∀ d', SizeOf.sizeOf d' < SizeOf.sizeOf d → Q d') → Q d) (d : PD) : Q d := by
 have : ∀ n (d : PD), SizeOf.sizeOf d < n → Q d := by
  intro n
  induction n with
  | zero => intro d hd; omega
  | succ n ih => intro d hd; exact h d fun d' hd' => ih d' (by omega)
 exact this _ d (Nat.lt_succ_self _)
theorem list_cells {α : Type} (c : α → List T) : ∀ (xs : List PD), (∀ x ∈ xs, ∃ a, x.cells = c a) → ∃ l : List α, PD.rows xs = l.map c
 | [], _ => ⟨[], rfl⟩
 | x :: xs, h => by
  obtain ⟨a, ha⟩ := h x (by simp)
  obtain ⟨l, hl⟩ := list_cells c xs fun y hy => h y (by simp [hy])
  exact ⟨a :: l, by rw [PD.rows, ha, hl]; rfl⟩
theorem sh_term : ∀ d, Shape Tryz.prog 24 d → ∃ a : Tm, d.cells = tmC a :=
 pd_strong fun d ih h => by
  obtain ⟨fs, rfl, hf⟩ := h.st Tryz.underlying24
  have hf : ShapeF Tryz.prog [9, 22] fs := hf
  obtain ⟨x1, r1, rfl, h1, hf⟩ := hf.cons
  obtain ⟨x2, r2, rfl, h2, hf⟩ := hf.cons
  obtain rfl := hf.nil
  obtain ⟨n, rfl⟩ := h1.str Tryz.underlying9
  obtain ⟨xs, rfl, hx⟩ := h2.sl Tryz.underlying22
  obtain ⟨l, hl⟩ := list_cells tmC xs fun x hx' => ih x (by have := List.sizeOf_lt_of_mem hx'; simp; omega) (hx x hx')
  exact ⟨.mk n l, by
   rw [tmC_eq, PD.cells, PD.flat, PD.flat, PD.flat, PD.cells, PD.cells, hl, show Tryz.prog.cellsOf 24 = 2 from by kernel_rfl]; rfl⟩
theorem sh_terms {d : PD} (h : Shape Tryz.prog 22 d) : ∃ l : List Tm, d.cells = [tmS l] := by
 obtain ⟨xs, rfl, hx⟩ := h.sl Tryz.underlying22
 obtain ⟨l, hl⟩ := list_cells tmC xs fun x hx' => sh_term x (hx x hx')
 exact ⟨l, by rw [PD.cells, hl, show Tryz.prog.cellsOf 24 = 2 from by kernel_rfl]⟩
theorem sh_formula : ∀ d, Shape Tryz.prog 27 d → ∃ a : Fm, d.cells = fmC a :=
 pd_strong fun d ih h => by
  obtain ⟨fs, rfl, hf⟩ := h.st Tryz.underlying27
  have hf : ShapeF Tryz.prog [3, 24, 9, 25] fs := hf
  obtain ⟨x1, r1, rfl, h1, hf⟩ := hf.cons
  obtain ⟨x2, r2, rfl, h2, hf⟩ := hf.cons
  obtain ⟨x3, r3, rfl, h3, hf⟩ := hf.cons
  obtain ⟨x4, r4, rfl, h4, hf⟩ := hf.cons
  obtain rfl := hf.nil
  obtain ⟨o, rfl⟩ := h1.int Tryz.underlying3
  obtain ⟨a, ha⟩ := sh_term _ h2
  obtain ⟨v, rfl⟩ := h3.str Tryz.underlying9
  obtain ⟨xs, rfl, hx⟩ := h4.sl Tryz.underlying25
  obtain ⟨l, hl⟩ := list_cells fmC xs fun x hx' => ih x (by have := List.sizeOf_lt_of_mem hx'; simp; omega) (hx x hx')
  exact ⟨.mk o a v l, by
   rw [fmC_eq, PD.cells, PD.flat, PD.flat, PD.flat, PD.flat, PD.flat, PD.cells, PD.cells, PD.cells, hl, ha, tmC_eq, show Tryz.prog.cellsOf 27 = 5 from by kernel_rfl]; rfl⟩
end Go.Proofs.YtbccfiillleimaaGreat
namespace Go.Proofs.YtbccfiillleimaaGreat
set_option linter.unusedSimpArgs false
set_option linter.unusedVariables false
set_option linter.unusedSectionVars false
set_option maxRecDepth 4000
open Go.RowKit
set_option maxHeartbeats 400000 in
theorem szTermS_of (xs : List Tm) (H : ∀ x ∈ xs, ∀ l : Int, 0 ≤ l → l ≤ 1048576 → FC Tryz.prog 54 [tmD x, iD l] [iD (szR x.wt l)]) (l : Int) (h0 : 0 ≤ l) (h1 : l ≤ 1048576) :
  FC Tryz.prog 56 [.one (tmS xs), iD l] [iD (szR (tmsW xs) l)] := by
 refine FC_wf (fun hw => ?_) Tryz.call56
 have hl : xs.length ≤ 9223372036854775807 := by simpa [wfDs, wfT] using hw.1.1
 refine FC_of Tryz.call56 Tryz.func56 rfl (by kernel_rfl) (by simp only [rd, List.map_cons, List.map_nil, List.length_cons, List.length_nil, Tryz.ntmps56]; omega) ?_
 simp -implicitDefEqProofs only [go_sem, Tryz.results56]
 rw [wrap_in (by omega) (by omega)]
 have hW : tmsW xs = xs.length + (xs.map Tm.wt).sum := rfl
 refine ⟨fun h => ?_, fun h => ?_⟩
 ·rw [szR_big (by simp at h; omega)]
 ·have hlen : (xs.length : Int) ≤ l := by simp at h; omega
  refine loop_rule (fun k : Nat => hd [(0, vT (tmS xs)), (1, vI (l - xs.length - psum Tm.wt xs k)), (5, vI k)] [] []) (fun k => k ≤ xs.length ∧ 0 ≤ l - xs.length - psum Tm.wt xs k) (fun k => xs.length - k) 0 (weak_hd ?_) ?_ ?_
  ·simp -implicitDefEqProofs only [go_sem]
   simp [psum_zero]
  ·simpa [psum_zero] using hlen
  ·intro k ⟨hk, hp⟩
   by_cases hlt : k < xs.length
   ·have hs := psum_succ Tm.wt xs k hlt
    have hs2 := psum_le Tm.wt xs (k + 1)
    simp -implicitDefEqProofs only [go_sem, List.length_map, getD_at, hlt, tmC_eq]
    refine callF (H xs[k] (List.getElem_mem hlt) (l - xs.length - psum Tm.wt xs k) hp (by omega)) (by simp -implicitDefEqProofs only [go_sem, tmC_eq]) ?_
    simp -implicitDefEqProofs only [go_sem, tmC_eq]
    refine ⟨fun h => ?_, fun h => ?_⟩
    ·have := szR_neg hp (by simpa using h)
     rw [szR_big (by omega)]
    ·obtain ⟨h2, h3⟩ := szR_pos (by simpa using h)
     rw [wrap_s (by omega)]
     exact ⟨k + 1, ⟨hlt, by omega⟩, by omega, weak_hd (by simp -implicitDefEqProofs only [go_sem]; rw [h3]; congr 1; omega)⟩
   ·simp -implicitDefEqProofs only [go_sem, List.length_map, hlt]
    have hall := psum_all Tm.wt xs k (by omega)
    rw [hall, szR_ok (by omega)]; congr 1; omega
set_option maxHeartbeats 400000 in
theorem toTermS_of (xs : List Tm) (H : ∀ x ∈ xs, FC Tryz.prog 58 [tmD x] [tmD x]) (hs : xs.length ≤ 1048576) :
  FC Tryz.prog 60 [.one (tmS xs)] [.one (tmS xs)] := by
 refine FC_wf (fun hw => ?_) Tryz.call60
 refine FC_of Tryz.call60 Tryz.func60 rfl (by kernel_rfl) (by simp only [rd, List.map_cons, List.map_nil, List.length_cons, List.length_nil, Tryz.ntmps60]; omega) ?_
 simp -implicitDefEqProofs only [go_sem, Tryz.results60]
 refine makeD (by simp -implicitDefEqProofs only [go_sem]; omega) ?_
 simp -implicitDefEqProofs only [go_sem]
 refine loop_rule (fun k : Nat => hd [(0, vT (tmS xs)), (3, .one (.ow 224 0)), (4, vI k)] [] [(224, ⟨true, 2, (xs.take k).map tmC ++ List.replicate (xs.length - k) [T.str [], T.sl 2 []], 0, true⟩)]) (fun k => k ≤ xs.length) (fun k => xs.length - k) 0 (weak_hd ?_) ?_ ?_
 ·simp -implicitDefEqProofs only [go_sem]
  simp
 ·simp
 ·intro k hk
  by_cases hlt : k < xs.length
  ·have hlen : ((xs.take k).map tmC ++ List.replicate (xs.length - k) [T.str [], T.sl 2 []]).length = xs.length := by simp; omega
   have hlt2 : k < k + (xs.length - k) := by omega
   simp -implicitDefEqProofs only [go_sem, List.length_map, getD_at, hlt, tmC_eq]
   refine callF (H xs[k] (List.getElem_mem hlt)) (by simp -implicitDefEqProofs only [go_sem, tmC_eq, hlen, hlt, List.length_append, List.length_map, List.length_take, List.length_replicate, Nat.min_eq_left hk, hlt2]) ?_
   simp -implicitDefEqProofs only [go_sem, tmC_eq, hlen, hlt, List.length_append, List.length_map, List.length_take, List.length_replicate, Nat.min_eq_left hk, hlt2]
   refine storeD (by simp -implicitDefEqProofs only [go_sem]; simp) ?_
   simp -implicitDefEqProofs only [go_sem]
   rw [wrap_s (by omega)]
   refine ⟨k + 1, by omega, by omega, weak_hd ?_⟩
   simp -implicitDefEqProofs only [go_sem]
   have hf := fill_next ((xs.take k).map tmC) xs.length k [T.str [], T.sl 2 []] (tmC xs[k]) (by simp; omega) hlt (by simp [tmC_eq])
   simp only [tmC_eq] at hf
   rw [hf, List.take_succ_eq_append_getElem hlt, List.map_append, List.map_singleton]
   simp only [tmC_eq]
  ·simp -implicitDefEqProofs only [go_sem, List.length_map, hlt]
   simp [List.take_of_length_le (show xs.length ≤ k by omega), show xs.length - k = 0 by omega]
set_option maxHeartbeats 400000 in
theorem eqTermS_of (xs ys : List Tm) (H : ∀ x ∈ xs, ∀ y, FC Tryz.prog 69 [tmD x, tmD y] [bD (same x y)]) :
  FC Tryz.prog 71 [.one (tmS xs), .one (tmS ys)] [bD (same xs ys)] := by
 refine FC_wf (fun hw => ?_) Tryz.call71
 have hl : xs.length ≤ 9223372036854775807 := by simpa [wfDs, wfT] using hw.1.1
 have hl2 : ys.length ≤ 9223372036854775807 := by simpa [wfDs, wfT] using hw.2.1.1
 refine FC_of Tryz.call71 Tryz.func71 rfl (by kernel_rfl) (by simp only [rd, List.map_cons, List.map_nil, List.length_cons, List.length_nil, Tryz.ntmps71]; omega) ?_
 simp -implicitDefEqProofs only [go_sem, Tryz.results71]
 refine ⟨fun h => ?_, fun h => ?_⟩
 ·rw [same_no.2 (by rintro rfl; simp at h)]
 ·have hlen : xs.length = ys.length := by simp at h; omega
  refine loop_rule (fun k : Nat => hd [(0, vT (tmS xs)), (1, vT (tmS ys)), (4, vB false), (5, vI k)] [] []) (fun k => k ≤ xs.length ∧ same xs ys = same (xs.drop k) (ys.drop k)) (fun k => xs.length - k) 0 (weak_hd ?_) ?_ ?_
  ·simp -implicitDefEqProofs only [go_sem]
  ·simp
  ·intro k ⟨hk, hr⟩
   by_cases hlt : k < xs.length
   ·have hk2 : k < ys.length := by omega
    simp -implicitDefEqProofs only [go_sem, List.length_map, hlt]
    refine drawn (by kernel_rfl) ?_
    simp -implicitDefEqProofs only [go_sem, List.length_map, getD_at, hlt, hk2, tmC_eq]
    refine dCallF (H xs[k] (List.getElem_mem hlt) ys[k]) (by simp -implicitDefEqProofs only [go_sem, tmC_eq]) ?_
    simp -implicitDefEqProofs only [go_sem, tmC_eq]
    refine ⟨by kernel_rfl, fun h => ?_, fun h => ?_⟩
    ·rw [hr, List.drop_eq_getElem_cons hlt, List.drop_eq_getElem_cons hk2, same_cons, show same xs[k] ys[k] = false by simpa using h]; rfl
    ·rw [List.drop_eq_getElem_cons hlt, List.drop_eq_getElem_cons hk2, same_cons, show same xs[k] ys[k] = true by simpa using h, Bool.true_and] at hr
     rw [wrap_s (by omega)]
     exact ⟨k + 1, ⟨by omega, hr⟩, by omega, weak_hd (by simp -implicitDefEqProofs only [go_sem])⟩
   ·simp -implicitDefEqProofs only [go_sem, List.length_map, hlt]
    rw [hr, List.drop_of_length_le (by omega), List.drop_of_length_le (by omega), same_nil]
set_option maxHeartbeats 400000 in
theorem szTerm_of (a : Tm) (H : ∀ l : Int, 0 ≤ l → l ≤ 1048576 → FC Tryz.prog 56 [.one (tmS a.args), iD l] [iD (szR (tmsW a.args) l)]) (l : Int) (h0 : 0 ≤ l) (h1 : l ≤ 1048576) :
  FC Tryz.prog 54 [tmD a, iD l] [iD (szR a.wt l)] := by
 refine FC_wf (fun hw => ?_) Tryz.call54
 simp only [tmD, tmC_eq] at hw ⊢
 have hW := a.wt_eq
 have hls : a.name.length ≤ 9223372036854775807 ∧ True := by simp [wfDs, wfT, wfTs] at hw; simp [hw]
 refine FC_of Tryz.call54 Tryz.func54 rfl (by kernel_rfl) (by simp only [rd, List.map_cons, List.map_nil, List.length_cons, List.length_nil, Tryz.ntmps54]; omega) ?_
 simp -implicitDefEqProofs only [go_sem, Tryz.results54]
 rw [wrap_in (by omega) (by omega)]
 refine ⟨fun h1 => ?_, fun h1 => ?_⟩
 ·rw [szR_big (by simp at h1; have hu0 : tmsW a.args = a.args.length + (a.args.map Tm.wt).sum := rfl;  omega)]
 have k1 : (a.name.length : Int) ≤ l := by simp at h1; omega
 refine callF (H (l - (a.name.length : Int)) (by omega) (by omega)) (by simp -implicitDefEqProofs only [go_sem, tmC_eq]) ?_
 simp -implicitDefEqProofs only [go_sem, tmC_eq]
 refine ⟨fun h2 => ?_, fun h2 => ?_⟩
 ·have := szR_neg (by omega) (show szR (tmsW a.args) (l - (a.name.length : Int)) < 0 by simpa using h2)
  rw [szR_big (by have hu0 : tmsW a.args = a.args.length + (a.args.map Tm.wt).sum := rfl;  omega)]
 obtain ⟨k2, j2⟩ := szR_pos (show ¬ szR (tmsW a.args) (l - (a.name.length : Int)) < 0 by simpa using h2)
 rw [show szR a.wt l = l - a.wt from szR_ok (by have hu0 : tmsW a.args = a.args.length + (a.args.map Tm.wt).sum := rfl;  omega)]; exact int_eq (by have hu0 : tmsW a.args = a.args.length + (a.args.map Tm.wt).sum := rfl;  omega)
set_option maxHeartbeats 400000 in
theorem toTerm_of (a : Tm) (H : FC Tryz.prog 60 [.one (tmS a.args)] [.one (tmS a.args)]) (hs : a.wt ≤ 1048576) : FC Tryz.prog 58 [tmD a] [tmD a] := by
 have hW := a.wt_eq
 simp only [tmD, tmC_eq]
 refine FC_of Tryz.call58 Tryz.func58 rfl (by kernel_rfl) (by simp only [rd, List.map_cons, List.map_nil, List.length_cons, List.length_nil, Tryz.ntmps58]; omega) ?_
 simp -implicitDefEqProofs only [go_sem, Tryz.results58]
 refine callF (H) (by simp -implicitDefEqProofs only [go_sem, tmC_eq]) ?_
 simp -implicitDefEqProofs only [go_sem, tmC_eq]
set_option maxHeartbeats 400000 in
theorem eqTerm_of (a b : Tm) (H : FC Tryz.prog 71 [.one (tmS a.args), .one (tmS b.args)] [bD (same a.args b.args)]) : FC Tryz.prog 69 [tmD a, tmD b] [bD (same a b)] := by
 simp only [tmD, tmC_eq]
 refine FC_of Tryz.call69 Tryz.func69 rfl (by kernel_rfl) (by simp only [rd, List.map_cons, List.map_nil, List.length_cons, List.length_nil, Tryz.ntmps69]; omega) ?_
 simp -implicitDefEqProofs only [go_sem, Tryz.results69]
 refine ⟨fun h1 => ?_, fun h1 => ?_⟩
 ·rw [same_no.2 (by rintro rfl; simp [same_self] at h1)]
 refine callF (H) (by simp -implicitDefEqProofs only [go_sem, tmC_eq]) ?_
 simp -implicitDefEqProofs only [go_sem, tmC_eq]
 refine ⟨fun h2 => ?_, fun h2 => ?_⟩
 ·rw [same_no.2 (by rintro rfl; simp [same_self] at h2)]
 rw [same_iff.2 (by cases a; cases b; simp [same_iff, Tm.name, Tm.args] at h1 h2 ⊢; simp [h1, h2])]
theorem szTerm_c : ∀ a : Tm, ∀ l : Int, 0 ≤ l → l ≤ 1048576 → FC Tryz.prog 54 [tmD a, iD l] [iD (szR a.wt l)] :=
 tm_ind fun b0 xs ih l h0 h1 => szTerm_of (.mk b0 xs) (fun l h0 h1 => szTermS_of xs ih l h0 h1) l h0 h1
theorem szTermS_c (xs : List Tm) (l : Int) (h0 : 0 ≤ l) (h1 : l ≤ 1048576) : FC Tryz.prog 56 [.one (tmS xs), iD l] [iD (szR (tmsW xs) l)] := szTermS_of xs (fun x _ => szTerm_c x) l h0 h1
theorem toTerm_c : ∀ a : Tm, a.wt ≤ 1048576 → FC Tryz.prog 58 [tmD a] [tmD a] := by
 refine tm_ind fun b0 xs ih hs => ?_
 have hW := Tm.wt_eq (.mk b0 xs)
 simp only [Tm.name, Tm.args] at hW
 refine toTerm_of _ (toTermS_of xs (fun x hx => ih x hx ?_) (by omega)) hs
 have := mem_sum Tm.wt xs x hx
 omega
theorem toTermS_c (xs : List Tm) (hs : tmsW xs ≤ 1048576) : FC Tryz.prog 60 [.one (tmS xs)] [.one (tmS xs)] :=
 toTermS_of xs (fun x hx => toTerm_c x (by have := mem_sum Tm.wt xs x hx; unfold tmsW at hs; omega)) (by unfold tmsW at hs; omega)
theorem eqTerm_c : ∀ a b : Tm, FC Tryz.prog 69 [tmD a, tmD b] [bD (same a b)] :=
 tm_ind fun b0 xs ih b => eqTerm_of (.mk b0 xs) b (eqTermS_of xs b.args ih)
theorem eqTermS_c (xs ys : List Tm) : FC Tryz.prog 71 [.one (tmS xs), .one (tmS ys)] [bD (same xs ys)] := eqTermS_of xs ys fun x _ => eqTerm_c x
end Go.Proofs.YtbccfiillleimaaGreat
namespace Go.Proofs.YtbccfiillleimaaGreat
set_option linter.unusedSimpArgs false
set_option linter.unusedVariables false
set_option linter.unusedSectionVars false
set_option maxRecDepth 4000
open Go.RowKit
set_option maxHeartbeats 400000 in
theorem szFormulaS_of (xs : List Fm) (H : ∀ x ∈ xs, ∀ l : Int, 0 ≤ l → l ≤ 1048576 → FC Tryz.prog 13 [fmD x, iD l] [iD (szR x.wt l)]) (l : Int) (h0 : 0 ≤ l) (h1 : l ≤ 1048576) :
  FC Tryz.prog 55 [.one (fmS xs), iD l] [iD (szR (fmsW xs) l)] := by
 refine FC_wf (fun hw => ?_) Tryz.call55
 have hl : xs.length ≤ 9223372036854775807 := by simpa [wfDs, wfT] using hw.1.1
 refine FC_of Tryz.call55 Tryz.func55 rfl (by kernel_rfl) (by simp only [rd, List.map_cons, List.map_nil, List.length_cons, List.length_nil, Tryz.ntmps55]; omega) ?_
 simp -implicitDefEqProofs only [go_sem, Tryz.results55]
 rw [wrap_in (by omega) (by omega)]
 have hW : fmsW xs = xs.length + (xs.map Fm.wt).sum := rfl
 refine ⟨fun h => ?_, fun h => ?_⟩
 ·rw [szR_big (by simp at h; omega)]
 ·have hlen : (xs.length : Int) ≤ l := by simp at h; omega
  refine loop_rule (fun k : Nat => hd [(0, vT (fmS xs)), (1, vI (l - xs.length - psum Fm.wt xs k)), (5, vI k)] [] []) (fun k => k ≤ xs.length ∧ 0 ≤ l - xs.length - psum Fm.wt xs k) (fun k => xs.length - k) 0 (weak_hd ?_) ?_ ?_
  ·simp -implicitDefEqProofs only [go_sem]
   simp [psum_zero]
  ·simpa [psum_zero] using hlen
  ·intro k ⟨hk, hp⟩
   by_cases hlt : k < xs.length
   ·have hs := psum_succ Fm.wt xs k hlt
    have hs2 := psum_le Fm.wt xs (k + 1)
    simp -implicitDefEqProofs only [go_sem, List.length_map, getD_at, hlt, fmC_eq, tmC_eq]
    refine callF (H xs[k] (List.getElem_mem hlt) (l - xs.length - psum Fm.wt xs k) hp (by omega)) (by simp -implicitDefEqProofs only [go_sem, fmC_eq, tmC_eq]) ?_
    simp -implicitDefEqProofs only [go_sem, fmC_eq, tmC_eq]
    refine ⟨fun h => ?_, fun h => ?_⟩
    ·have := szR_neg hp (by simpa using h)
     rw [szR_big (by omega)]
    ·obtain ⟨h2, h3⟩ := szR_pos (by simpa using h)
     rw [wrap_s (by omega)]
     exact ⟨k + 1, ⟨hlt, by omega⟩, by omega, weak_hd (by simp -implicitDefEqProofs only [go_sem]; rw [h3]; congr 1; omega)⟩
   ·simp -implicitDefEqProofs only [go_sem, List.length_map, hlt]
    have hall := psum_all Fm.wt xs k (by omega)
    rw [hall, szR_ok (by omega)]; congr 1; omega
set_option maxHeartbeats 400000 in
theorem toFormulaS_of (xs : List Fm) (H : ∀ x ∈ xs, FC Tryz.prog 16 [fmD x] [fmD x]) (hs : xs.length ≤ 1048576) :
  FC Tryz.prog 59 [.one (fmS xs)] [.one (fmS xs)] := by
 refine FC_wf (fun hw => ?_) Tryz.call59
 refine FC_of Tryz.call59 Tryz.func59 rfl (by kernel_rfl) (by simp only [rd, List.map_cons, List.map_nil, List.length_cons, List.length_nil, Tryz.ntmps59]; omega) ?_
 simp -implicitDefEqProofs only [go_sem, Tryz.results59]
 refine makeD (by simp -implicitDefEqProofs only [go_sem]; omega) ?_
 simp -implicitDefEqProofs only [go_sem]
 refine loop_rule (fun k : Nat => hd [(0, vT (fmS xs)), (3, .one (.ow 224 0)), (4, vI k)] [] [(224, ⟨true, 5, (xs.take k).map fmC ++ List.replicate (xs.length - k) [T.int .i64 0, T.str [], T.sl 2 [], T.str [], T.sl 5 []], 0, true⟩)]) (fun k => k ≤ xs.length) (fun k => xs.length - k) 0 (weak_hd ?_) ?_ ?_
 ·simp -implicitDefEqProofs only [go_sem]
  simp
 ·simp
 ·intro k hk
  by_cases hlt : k < xs.length
  ·have hlen : ((xs.take k).map fmC ++ List.replicate (xs.length - k) [T.int .i64 0, T.str [], T.sl 2 [], T.str [], T.sl 5 []]).length = xs.length := by simp; omega
   have hlt2 : k < k + (xs.length - k) := by omega
   simp -implicitDefEqProofs only [go_sem, List.length_map, getD_at, hlt, fmC_eq, tmC_eq]
   refine callF (H xs[k] (List.getElem_mem hlt)) (by simp -implicitDefEqProofs only [go_sem, fmC_eq, tmC_eq, hlen, hlt, List.length_append, List.length_map, List.length_take, List.length_replicate, Nat.min_eq_left hk, hlt2]) ?_
   simp -implicitDefEqProofs only [go_sem, fmC_eq, tmC_eq, hlen, hlt, List.length_append, List.length_map, List.length_take, List.length_replicate, Nat.min_eq_left hk, hlt2]
   refine storeD (by simp -implicitDefEqProofs only [go_sem]; simp) ?_
   simp -implicitDefEqProofs only [go_sem]
   rw [wrap_s (by omega)]
   refine ⟨k + 1, by omega, by omega, weak_hd ?_⟩
   simp -implicitDefEqProofs only [go_sem]
   have hf := fill_next ((xs.take k).map fmC) xs.length k [T.int .i64 0, T.str [], T.sl 2 [], T.str [], T.sl 5 []] (fmC xs[k]) (by simp; omega) hlt (by simp [fmC_eq, tmC_eq])
   simp only [fmC_eq, tmC_eq] at hf
   rw [hf, List.take_succ_eq_append_getElem hlt, List.map_append, List.map_singleton]
   simp only [fmC_eq, tmC_eq]
  ·simp -implicitDefEqProofs only [go_sem, List.length_map, hlt]
   simp [List.take_of_length_le (show xs.length ≤ k by omega), show xs.length - k = 0 by omega]
set_option maxHeartbeats 400000 in
theorem eqFormulaS_of (xs ys : List Fm) (H : ∀ x ∈ xs, ∀ y, FC Tryz.prog 19 [fmD x, fmD y] [bD (same x y)]) :
  FC Tryz.prog 70 [.one (fmS xs), .one (fmS ys)] [bD (same xs ys)] := by
 refine FC_wf (fun hw => ?_) Tryz.call70
 have hl : xs.length ≤ 9223372036854775807 := by simpa [wfDs, wfT] using hw.1.1
 have hl2 : ys.length ≤ 9223372036854775807 := by simpa [wfDs, wfT] using hw.2.1.1
 refine FC_of Tryz.call70 Tryz.func70 rfl (by kernel_rfl) (by simp only [rd, List.map_cons, List.map_nil, List.length_cons, List.length_nil, Tryz.ntmps70]; omega) ?_
 simp -implicitDefEqProofs only [go_sem, Tryz.results70]
 refine ⟨fun h => ?_, fun h => ?_⟩
 ·rw [same_no.2 (by rintro rfl; simp at h)]
 ·have hlen : xs.length = ys.length := by simp at h; omega
  refine loop_rule (fun k : Nat => hd [(0, vT (fmS xs)), (1, vT (fmS ys)), (4, vB false), (5, vI k)] [] []) (fun k => k ≤ xs.length ∧ same xs ys = same (xs.drop k) (ys.drop k)) (fun k => xs.length - k) 0 (weak_hd ?_) ?_ ?_
  ·simp -implicitDefEqProofs only [go_sem]
  ·simp
  ·intro k ⟨hk, hr⟩
   by_cases hlt : k < xs.length
   ·have hk2 : k < ys.length := by omega
    simp -implicitDefEqProofs only [go_sem, List.length_map, hlt]
    refine drawn (by kernel_rfl) ?_
    simp -implicitDefEqProofs only [go_sem, List.length_map, getD_at, hlt, hk2, fmC_eq, tmC_eq]
    refine dCallF (H xs[k] (List.getElem_mem hlt) ys[k]) (by simp -implicitDefEqProofs only [go_sem, fmC_eq, tmC_eq]) ?_
    simp -implicitDefEqProofs only [go_sem, fmC_eq, tmC_eq]
    refine ⟨by kernel_rfl, fun h => ?_, fun h => ?_⟩
    ·rw [hr, List.drop_eq_getElem_cons hlt, List.drop_eq_getElem_cons hk2, same_cons, show same xs[k] ys[k] = false by simpa using h]; rfl
    ·rw [List.drop_eq_getElem_cons hlt, List.drop_eq_getElem_cons hk2, same_cons, show same xs[k] ys[k] = true by simpa using h, Bool.true_and] at hr
     rw [wrap_s (by omega)]
     exact ⟨k + 1, ⟨by omega, hr⟩, by omega, weak_hd (by simp -implicitDefEqProofs only [go_sem])⟩
   ·simp -implicitDefEqProofs only [go_sem, List.length_map, hlt]
    rw [hr, List.drop_of_length_le (by omega), List.drop_of_length_le (by omega), same_nil]
set_option maxHeartbeats 400000 in
theorem szFormula_of (a : Fm) (H : ∀ l : Int, 0 ≤ l → l ≤ 1048576 → FC Tryz.prog 55 [.one (fmS a.parts), iD l] [iD (szR (fmsW a.parts) l)]) (l : Int) (h0 : 0 ≤ l) (h1 : l ≤ 1048576) :
  FC Tryz.prog 13 [fmD a, iD l] [iD (szR a.wt l)] := by
 refine FC_wf (fun hw => ?_) Tryz.call13
 simp only [fmD, fmC_eq, tmC_eq] at hw ⊢
 have hW := a.wt_eq
 have hls : a.var.length ≤ 9223372036854775807 ∧ True := by simp [wfDs, wfT, wfTs] at hw; simp [hw]
 refine FC_of Tryz.call13 Tryz.func13 rfl (by kernel_rfl) (by simp only [rd, List.map_cons, List.map_nil, List.length_cons, List.length_nil, Tryz.ntmps13]; omega) ?_
 simp -implicitDefEqProofs only [go_sem, Tryz.results13]
 refine callF (szTerm_c a.atom l (by omega) (by omega)) (by simp -implicitDefEqProofs only [go_sem, fmC_eq, tmC_eq, tmC_eq]) ?_
 simp -implicitDefEqProofs only [go_sem, fmC_eq, tmC_eq, tmC_eq]
 refine ⟨fun h1 => ?_, fun h1 => ?_⟩
 ·have := szR_neg (by omega) (show szR a.atom.wt l < 0 by simpa using h1)
  rw [szR_big (by have hu0 : fmsW a.parts = a.parts.length + (a.parts.map Fm.wt).sum := rfl;  omega)]
 obtain ⟨k1, j1⟩ := szR_pos (show ¬ szR a.atom.wt l < 0 by simpa using h1)
 rw [wrap_in (by omega) (by omega)]
 refine ⟨fun h2 => ?_, fun h2 => ?_⟩
 ·rw [szR_big (by simp at h2; have hu0 : fmsW a.parts = a.parts.length + (a.parts.map Fm.wt).sum := rfl;  omega)]
 have k2 : (a.var.length : Int) ≤ (szR a.atom.wt l) := by simp at h2; omega
 refine callF (H ((szR a.atom.wt l) - (a.var.length : Int)) (by omega) (by omega)) (by simp -implicitDefEqProofs only [go_sem, fmC_eq, tmC_eq]) ?_
 simp -implicitDefEqProofs only [go_sem, fmC_eq, tmC_eq]
 refine ⟨fun h3 => ?_, fun h3 => ?_⟩
 ·have := szR_neg (by omega) (show szR (fmsW a.parts) ((szR a.atom.wt l) - (a.var.length : Int)) < 0 by simpa using h3)
  rw [szR_big (by have hu0 : fmsW a.parts = a.parts.length + (a.parts.map Fm.wt).sum := rfl;  omega)]
 obtain ⟨k3, j3⟩ := szR_pos (show ¬ szR (fmsW a.parts) ((szR a.atom.wt l) - (a.var.length : Int)) < 0 by simpa using h3)
 rw [show szR a.wt l = l - a.wt from szR_ok (by have hu0 : fmsW a.parts = a.parts.length + (a.parts.map Fm.wt).sum := rfl;  omega)]; exact int_eq (by have hu0 : fmsW a.parts = a.parts.length + (a.parts.map Fm.wt).sum := rfl;  omega)
set_option maxHeartbeats 400000 in
theorem toFormula_of (a : Fm) (H : FC Tryz.prog 59 [.one (fmS a.parts)] [.one (fmS a.parts)]) (hs : a.wt ≤ 1048576) : FC Tryz.prog 16 [fmD a] [fmD a] := by
 have hW := a.wt_eq
 simp only [fmD, fmC_eq, tmC_eq]
 refine FC_of Tryz.call16 Tryz.func16 rfl (by kernel_rfl) (by simp only [rd, List.map_cons, List.map_nil, List.length_cons, List.length_nil, Tryz.ntmps16]; omega) ?_
 simp -implicitDefEqProofs only [go_sem, Tryz.results16]
 refine callF (toTerm_c a.atom (by have hu0 : fmsW a.parts = a.parts.length + (a.parts.map Fm.wt).sum := rfl;  omega)) (by simp -implicitDefEqProofs only [go_sem, fmC_eq, tmC_eq, tmC_eq]) ?_
 simp -implicitDefEqProofs only [go_sem, fmC_eq, tmC_eq, tmC_eq]
 refine callF (H) (by simp -implicitDefEqProofs only [go_sem, fmC_eq, tmC_eq]) ?_
 simp -implicitDefEqProofs only [go_sem, fmC_eq, tmC_eq]
set_option maxHeartbeats 400000 in
theorem eqFormula_of (a b : Fm) (H : FC Tryz.prog 70 [.one (fmS a.parts), .one (fmS b.parts)] [bD (same a.parts b.parts)]) : FC Tryz.prog 19 [fmD a, fmD b] [bD (same a b)] := by
 simp only [fmD, fmC_eq, tmC_eq]
 refine FC_of Tryz.call19 Tryz.func19 rfl (by kernel_rfl) (by simp only [rd, List.map_cons, List.map_nil, List.length_cons, List.length_nil, Tryz.ntmps19]; omega) ?_
 simp -implicitDefEqProofs only [go_sem, Tryz.results19]
 refine ⟨fun h1 => ?_, fun h1 => ?_⟩
 ·rw [same_no.2 (by rintro rfl; simp [same_self] at h1)]
 refine callF (eqTerm_c a.atom b.atom) (by simp -implicitDefEqProofs only [go_sem, fmC_eq, tmC_eq, tmC_eq]) ?_
 simp -implicitDefEqProofs only [go_sem, fmC_eq, tmC_eq, tmC_eq]
 refine ⟨fun h2 => ?_, fun h2 => ?_⟩
 ·rw [same_no.2 (by rintro rfl; simp [same_self] at h2)]
 refine ⟨fun h3 => ?_, fun h3 => ?_⟩
 ·rw [same_no.2 (by rintro rfl; simp [same_self] at h3)]
 refine callF (H) (by simp -implicitDefEqProofs only [go_sem, fmC_eq, tmC_eq]) ?_
 simp -implicitDefEqProofs only [go_sem, fmC_eq, tmC_eq]
 refine ⟨fun h4 => ?_, fun h4 => ?_⟩
 ·rw [same_no.2 (by rintro rfl; simp [same_self] at h4)]
 rw [same_iff.2 (by cases a; cases b; simp [same_iff, Fm.op, Fm.atom, Fm.var, Fm.parts] at h1 h2 h3 h4 ⊢; simp [h1, h2, h3, h4])]
theorem szFormula_c : ∀ a : Fm, ∀ l : Int, 0 ≤ l → l ≤ 1048576 → FC Tryz.prog 13 [fmD a, iD l] [iD (szR a.wt l)] :=
 fm_ind fun b0 b1 b2 xs ih l h0 h1 => szFormula_of (.mk b0 b1 b2 xs) (fun l h0 h1 => szFormulaS_of xs ih l h0 h1) l h0 h1
theorem toFormula_c : ∀ a : Fm, a.wt ≤ 1048576 → FC Tryz.prog 16 [fmD a] [fmD a] := by
 refine fm_ind fun b0 b1 b2 xs ih hs => ?_
 have hW := Fm.wt_eq (.mk b0 b1 b2 xs)
 simp only [Fm.op, Fm.atom, Fm.var, Fm.parts] at hW
 refine toFormula_of _ (toFormulaS_of xs (fun x hx => ih x hx ?_) (by omega)) hs
 have := mem_sum Fm.wt xs x hx
 omega
theorem eqFormula_c : ∀ a b : Fm, FC Tryz.prog 19 [fmD a, fmD b] [bD (same a b)] :=
 fm_ind fun b0 b1 b2 xs ih b => eqFormula_of (.mk b0 b1 b2 xs) b (eqFormulaS_of xs b.parts ih)
end Go.Proofs.YtbccfiillleimaaGreat
namespace Go.Proofs.YtbccfiillleimaaGreat
set_option linter.unusedSimpArgs false
set_option linter.unusedVariables false
set_option linter.unusedSectionVars false
set_option maxRecDepth 4000
open Go.RowKit
inductive Ex where
 | mk (form : Fm) (terms : List Tm) (parts : List Ex)
def Ex.form : Ex → Fm | .mk f _ _ => f
def Ex.terms : Ex → List Tm | .mk _ t _ => t
def Ex.parts : Ex → List Ex | .mk _ _ ps => ps
theorem Ex.eta : ∀ a : Ex, Ex.mk a.form a.terms a.parts = a | .mk _ _ _ => rfl
mutual
theorem ex_ind {P : Ex → Prop} (h : ∀ f t ps, (∀ x ∈ ps, P x) → P (.mk f t ps)) : ∀ e, P e
 | .mk f t ps => h f t ps (ex_inds h ps)
theorem ex_inds {P : Ex → Prop} (h : ∀ f t ps, (∀ x ∈ ps, P x) → P (.mk f t ps)) : ∀ xs : List Ex, ∀ x ∈ xs, P x
 | [], x, hx => absurd hx (by simp)
 | a :: xs, x, hx => (List.mem_cons.1 hx).elim (fun e => e ▸ ex_ind h a) (ex_inds h xs x)
end
mutual
def Ex.fold {α : Type} (g : Fm → List Tm → List Ex → List α → α) : Ex → α
 | .mk f t ps => g f t ps (Ex.folds g ps)
def Ex.folds {α : Type} (g : Fm → List Tm → List Ex → List α → α) : List Ex → List α
 | [] => []
 | a :: xs => Ex.fold g a :: Ex.folds g xs
end
theorem Ex.folds_map {α : Type} (g : Fm → List Tm → List Ex → List α → α) (xs : List Ex) : Ex.folds g xs = xs.map (Ex.fold g) := by
 induction xs with
 | nil => rfl
 | cons a xs ih => rw [Ex.folds, ih]; rfl
theorem Ex.fold_eq {α : Type} (g : Fm → List Tm → List Ex → List α → α) (a : Ex) : Ex.fold g a = g a.form a.terms a.parts (a.parts.map (Ex.fold g)) := by
 cases a; rw [Ex.fold, Ex.folds_map]; rfl
def exC : Ex → List T := Ex.fold fun f t _ rs => [.int .i64 f.op, .str f.atom.name, .sl 2 (f.atom.args.map tmC), .str f.var, .sl 5 (f.parts.map fmC), .sl 2 (t.map tmC), .sl 7 rs]
theorem exC_eq (a : Ex) : exC a = [.int .i64 a.form.op, .str a.form.atom.name, .sl 2 (a.form.atom.args.map tmC), .str a.form.var, .sl 5 (a.form.parts.map fmC), .sl 2 (a.terms.map tmC), .sl 7 (a.parts.map exC)] := Ex.fold_eq _ a
abbrev exD (a : Ex) : D := .agg (exC a)
abbrev exS (xs : List Ex) : T := .sl 7 (xs.map exC)
def Ex.wt : Ex → Nat := Ex.fold fun f t ps rs => f.wt + tmsW t + (ps.length + rs.sum)
theorem Ex.wt_eq (a : Ex) : a.wt = a.form.wt + tmsW a.terms + (a.parts.length + (a.parts.map Ex.wt).sum) := Ex.fold_eq _ a
def exsW (xs : List Ex) : Nat := xs.length + (xs.map Ex.wt).sum
end Go.Proofs.YtbccfiillleimaaGreat
namespace Go.Proofs.YtbccfiillleimaaGreat
set_option linter.unusedSimpArgs false
set_option linter.unusedVariables false
set_option linter.unusedSectionVars false
set_option maxRecDepth 4000
open Go.RowKit
theorem sh_expansion : ∀ d, Shape Tryz.prog 56 d → ∃ a : Ex, d.cells = exC a :=
 pd_strong fun d ih h => by
  obtain ⟨fs, rfl, hf⟩ := h.st Tryz.underlying56
  have hf : ShapeF Tryz.prog [27, 22, 54] fs := hf
  obtain ⟨x1, r1, rfl, h1, hf⟩ := hf.cons
  obtain ⟨x2, r2, rfl, h2, hf⟩ := hf.cons
  obtain ⟨x3, r3, rfl, h3, hf⟩ := hf.cons
  obtain rfl := hf.nil
  obtain ⟨a, ha⟩ := sh_formula _ h1
  obtain ⟨ts, hts⟩ := sh_terms h2
  obtain ⟨xs, rfl, hx⟩ := h3.sl Tryz.underlying54
  obtain ⟨l, hl⟩ := list_cells exC xs fun x hx' => ih x (by have := List.sizeOf_lt_of_mem hx'; simp; omega) (hx x hx')
  exact ⟨.mk a ts l, by
   rw [exC_eq, PD.cells, PD.flat, PD.flat, PD.flat, PD.flat, PD.cells, hl, ha, hts, fmC_eq, show Tryz.prog.cellsOf 56 = 7 from by kernel_rfl]; rfl⟩
end Go.Proofs.YtbccfiillleimaaGreat
namespace Go.Proofs.YtbccfiillleimaaGreat
set_option linter.unusedSimpArgs false
set_option linter.unusedVariables false
set_option linter.unusedSectionVars false
set_option maxRecDepth 4000
open Go.RowKit
set_option maxHeartbeats 400000 in
theorem szExpansionS_of (xs : List Ex) (H : ∀ x ∈ xs, ∀ l : Int, 0 ≤ l → l ≤ 1048576 → FC Tryz.prog 31 [exD x, iD l] [iD (szR x.wt l)]) (l : Int) (h0 : 0 ≤ l) (h1 : l ≤ 1048576) :
  FC Tryz.prog 82 [.one (exS xs), iD l] [iD (szR (exsW xs) l)] := by
 refine FC_wf (fun hw => ?_) Tryz.call82
 have hl : xs.length ≤ 9223372036854775807 := by simpa [wfDs, wfT] using hw.1.1
 refine FC_of Tryz.call82 Tryz.func82 rfl (by kernel_rfl) (by simp only [rd, List.map_cons, List.map_nil, List.length_cons, List.length_nil, Tryz.ntmps82]; omega) ?_
 simp -implicitDefEqProofs only [go_sem, Tryz.results82]
 rw [wrap_in (by omega) (by omega)]
 have hW : exsW xs = xs.length + (xs.map Ex.wt).sum := rfl
 refine ⟨fun h => ?_, fun h => ?_⟩
 ·rw [szR_big (by simp at h; omega)]
 ·have hlen : (xs.length : Int) ≤ l := by simp at h; omega
  refine loop_rule (fun k : Nat => hd [(0, vT (exS xs)), (1, vI (l - xs.length - psum Ex.wt xs k)), (5, vI k)] [] []) (fun k => k ≤ xs.length ∧ 0 ≤ l - xs.length - psum Ex.wt xs k) (fun k => xs.length - k) 0 (weak_hd ?_) ?_ ?_
  ·simp -implicitDefEqProofs only [go_sem]
   simp [psum_zero]
  ·simpa [psum_zero] using hlen
  ·intro k ⟨hk, hp⟩
   by_cases hlt : k < xs.length
   ·have hs := psum_succ Ex.wt xs k hlt
    have hs2 := psum_le Ex.wt xs (k + 1)
    simp -implicitDefEqProofs only [go_sem, List.length_map, getD_at, hlt, exC_eq, fmC_eq, tmC_eq]
    refine callF (H xs[k] (List.getElem_mem hlt) (l - xs.length - psum Ex.wt xs k) hp (by omega)) (by simp -implicitDefEqProofs only [go_sem, exC_eq, fmC_eq, tmC_eq]) ?_
    simp -implicitDefEqProofs only [go_sem, exC_eq, fmC_eq, tmC_eq]
    refine ⟨fun h => ?_, fun h => ?_⟩
    ·have := szR_neg hp (by simpa using h)
     rw [szR_big (by omega)]
    ·obtain ⟨h2, h3⟩ := szR_pos (by simpa using h)
     rw [wrap_s (by omega)]
     exact ⟨k + 1, ⟨hlt, by omega⟩, by omega, weak_hd (by simp -implicitDefEqProofs only [go_sem]; rw [h3]; congr 1; omega)⟩
   ·simp -implicitDefEqProofs only [go_sem, List.length_map, hlt]
    have hall := psum_all Ex.wt xs k (by omega)
    rw [hall, szR_ok (by omega)]; congr 1; omega
set_option maxHeartbeats 400000 in
theorem toExpansionS_of (xs : List Ex) (H : ∀ x ∈ xs, FC Tryz.prog 33 [exD x] [exD x]) (hs : xs.length ≤ 1048576) :
  FC Tryz.prog 86 [.one (exS xs)] [.one (exS xs)] := by
 refine FC_wf (fun hw => ?_) Tryz.call86
 refine FC_of Tryz.call86 Tryz.func86 rfl (by kernel_rfl) (by simp only [rd, List.map_cons, List.map_nil, List.length_cons, List.length_nil, Tryz.ntmps86]; omega) ?_
 simp -implicitDefEqProofs only [go_sem, Tryz.results86]
 refine makeD (by simp -implicitDefEqProofs only [go_sem]; omega) ?_
 simp -implicitDefEqProofs only [go_sem]
 refine loop_rule (fun k : Nat => hd [(0, vT (exS xs)), (3, .one (.ow 224 0)), (4, vI k)] [] [(224, ⟨true, 7, (xs.take k).map exC ++ List.replicate (xs.length - k) [T.int .i64 0, T.str [], T.sl 2 [], T.str [], T.sl 5 [], T.sl 2 [], T.sl 7 []], 0, true⟩)]) (fun k => k ≤ xs.length) (fun k => xs.length - k) 0 (weak_hd ?_) ?_ ?_
 ·simp -implicitDefEqProofs only [go_sem]
  simp
 ·simp
 ·intro k hk
  by_cases hlt : k < xs.length
  ·have hlen : ((xs.take k).map exC ++ List.replicate (xs.length - k) [T.int .i64 0, T.str [], T.sl 2 [], T.str [], T.sl 5 [], T.sl 2 [], T.sl 7 []]).length = xs.length := by simp; omega
   have hlt2 : k < k + (xs.length - k) := by omega
   simp -implicitDefEqProofs only [go_sem, List.length_map, getD_at, hlt, exC_eq, fmC_eq, tmC_eq]
   refine callF (H xs[k] (List.getElem_mem hlt)) (by simp -implicitDefEqProofs only [go_sem, exC_eq, fmC_eq, tmC_eq, hlen, hlt, List.length_append, List.length_map, List.length_take, List.length_replicate, Nat.min_eq_left hk, hlt2]) ?_
   simp -implicitDefEqProofs only [go_sem, exC_eq, fmC_eq, tmC_eq, hlen, hlt, List.length_append, List.length_map, List.length_take, List.length_replicate, Nat.min_eq_left hk, hlt2]
   refine storeD (by simp -implicitDefEqProofs only [go_sem]; simp) ?_
   simp -implicitDefEqProofs only [go_sem]
   rw [wrap_s (by omega)]
   refine ⟨k + 1, by omega, by omega, weak_hd ?_⟩
   simp -implicitDefEqProofs only [go_sem]
   have hf := fill_next ((xs.take k).map exC) xs.length k [T.int .i64 0, T.str [], T.sl 2 [], T.str [], T.sl 5 [], T.sl 2 [], T.sl 7 []] (exC xs[k]) (by simp; omega) hlt (by simp [exC_eq, fmC_eq, tmC_eq])
   simp only [exC_eq, fmC_eq, tmC_eq] at hf
   rw [hf, List.take_succ_eq_append_getElem hlt, List.map_append, List.map_singleton]
   simp only [exC_eq, fmC_eq, tmC_eq]
  ·simp -implicitDefEqProofs only [go_sem, List.length_map, hlt]
   simp [List.take_of_length_le (show xs.length ≤ k by omega), show xs.length - k = 0 by omega]
set_option maxHeartbeats 400000 in
theorem eqExpansionS_of (xs ys : List Ex) (H : ∀ x ∈ xs, ∀ y, FC Tryz.prog 35 [exD x, exD y] [bD (same x y)]) :
  FC Tryz.prog 89 [.one (exS xs), .one (exS ys)] [bD (same xs ys)] := by
 refine FC_wf (fun hw => ?_) Tryz.call89
 have hl : xs.length ≤ 9223372036854775807 := by simpa [wfDs, wfT] using hw.1.1
 have hl2 : ys.length ≤ 9223372036854775807 := by simpa [wfDs, wfT] using hw.2.1.1
 refine FC_of Tryz.call89 Tryz.func89 rfl (by kernel_rfl) (by simp only [rd, List.map_cons, List.map_nil, List.length_cons, List.length_nil, Tryz.ntmps89]; omega) ?_
 simp -implicitDefEqProofs only [go_sem, Tryz.results89]
 refine ⟨fun h => ?_, fun h => ?_⟩
 ·rw [same_no.2 (by rintro rfl; simp at h)]
 ·have hlen : xs.length = ys.length := by simp at h; omega
  refine loop_rule (fun k : Nat => hd [(0, vT (exS xs)), (1, vT (exS ys)), (4, vB false), (5, vI k)] [] []) (fun k => k ≤ xs.length ∧ same xs ys = same (xs.drop k) (ys.drop k)) (fun k => xs.length - k) 0 (weak_hd ?_) ?_ ?_
  ·simp -implicitDefEqProofs only [go_sem]
  ·simp
  ·intro k ⟨hk, hr⟩
   by_cases hlt : k < xs.length
   ·have hk2 : k < ys.length := by omega
    simp -implicitDefEqProofs only [go_sem, List.length_map, hlt]
    refine drawn (by kernel_rfl) ?_
    simp -implicitDefEqProofs only [go_sem, List.length_map, getD_at, hlt, hk2, exC_eq, fmC_eq, tmC_eq]
    refine dCallF (H xs[k] (List.getElem_mem hlt) ys[k]) (by simp -implicitDefEqProofs only [go_sem, exC_eq, fmC_eq, tmC_eq]) ?_
    simp -implicitDefEqProofs only [go_sem, exC_eq, fmC_eq, tmC_eq]
    refine ⟨by kernel_rfl, fun h => ?_, fun h => ?_⟩
    ·rw [hr, List.drop_eq_getElem_cons hlt, List.drop_eq_getElem_cons hk2, same_cons, show same xs[k] ys[k] = false by simpa using h]; rfl
    ·rw [List.drop_eq_getElem_cons hlt, List.drop_eq_getElem_cons hk2, same_cons, show same xs[k] ys[k] = true by simpa using h, Bool.true_and] at hr
     rw [wrap_s (by omega)]
     exact ⟨k + 1, ⟨by omega, hr⟩, by omega, weak_hd (by simp -implicitDefEqProofs only [go_sem])⟩
   ·simp -implicitDefEqProofs only [go_sem, List.length_map, hlt]
    rw [hr, List.drop_of_length_le (by omega), List.drop_of_length_le (by omega), same_nil]
set_option maxHeartbeats 400000 in
theorem szExpansion_of (a : Ex) (H : ∀ l : Int, 0 ≤ l → l ≤ 1048576 → FC Tryz.prog 82 [.one (exS a.parts), iD l] [iD (szR (exsW a.parts) l)]) (l : Int) (h0 : 0 ≤ l) (h1 : l ≤ 1048576) :
  FC Tryz.prog 31 [exD a, iD l] [iD (szR a.wt l)] := by
 refine FC_wf (fun hw => ?_) Tryz.call31
 simp only [exD, exC_eq, fmC_eq, tmC_eq] at hw ⊢
 have hW := a.wt_eq
 have hls : True := by simp [wfDs, wfT, wfTs] at hw; simp [hw]
 refine FC_of Tryz.call31 Tryz.func31 rfl (by kernel_rfl) (by simp only [rd, List.map_cons, List.map_nil, List.length_cons, List.length_nil, Tryz.ntmps31]; omega) ?_
 simp -implicitDefEqProofs only [go_sem, Tryz.results31]
 refine callF (szFormula_c a.form l (by omega) (by omega)) (by simp -implicitDefEqProofs only [go_sem, exC_eq, fmC_eq, tmC_eq, fmC_eq, tmC_eq]) ?_
 simp -implicitDefEqProofs only [go_sem, exC_eq, fmC_eq, tmC_eq, fmC_eq, tmC_eq]
 refine ⟨fun h1 => ?_, fun h1 => ?_⟩
 ·have := szR_neg (by omega) (show szR a.form.wt l < 0 by simpa using h1)
  rw [szR_big (by have hu0 : tmsW a.terms = a.terms.length + (a.terms.map Tm.wt).sum := rfl; have hu1 : exsW a.parts = a.parts.length + (a.parts.map Ex.wt).sum := rfl;  omega)]
 obtain ⟨k1, j1⟩ := szR_pos (show ¬ szR a.form.wt l < 0 by simpa using h1)
 refine callF (szTermS_c a.terms (szR a.form.wt l) (by omega) (by omega)) (by simp -implicitDefEqProofs only [go_sem, exC_eq, fmC_eq, tmC_eq]) ?_
 simp -implicitDefEqProofs only [go_sem, exC_eq, fmC_eq, tmC_eq]
 refine ⟨fun h2 => ?_, fun h2 => ?_⟩
 ·have := szR_neg (by omega) (show szR (tmsW a.terms) (szR a.form.wt l) < 0 by simpa using h2)
  rw [szR_big (by have hu0 : tmsW a.terms = a.terms.length + (a.terms.map Tm.wt).sum := rfl; have hu1 : exsW a.parts = a.parts.length + (a.parts.map Ex.wt).sum := rfl;  omega)]
 obtain ⟨k2, j2⟩ := szR_pos (show ¬ szR (tmsW a.terms) (szR a.form.wt l) < 0 by simpa using h2)
 refine callF (H (szR (tmsW a.terms) (szR a.form.wt l)) (by omega) (by omega)) (by simp -implicitDefEqProofs only [go_sem, exC_eq, fmC_eq, tmC_eq]) ?_
 simp -implicitDefEqProofs only [go_sem, exC_eq, fmC_eq, tmC_eq]
 refine ⟨fun h3 => ?_, fun h3 => ?_⟩
 ·have := szR_neg (by omega) (show szR (exsW a.parts) (szR (tmsW a.terms) (szR a.form.wt l)) < 0 by simpa using h3)
  rw [szR_big (by have hu0 : tmsW a.terms = a.terms.length + (a.terms.map Tm.wt).sum := rfl; have hu1 : exsW a.parts = a.parts.length + (a.parts.map Ex.wt).sum := rfl;  omega)]
 obtain ⟨k3, j3⟩ := szR_pos (show ¬ szR (exsW a.parts) (szR (tmsW a.terms) (szR a.form.wt l)) < 0 by simpa using h3)
 rw [show szR a.wt l = l - a.wt from szR_ok (by have hu0 : tmsW a.terms = a.terms.length + (a.terms.map Tm.wt).sum := rfl; have hu1 : exsW a.parts = a.parts.length + (a.parts.map Ex.wt).sum := rfl;  omega)]; exact int_eq (by have hu0 : tmsW a.terms = a.terms.length + (a.terms.map Tm.wt).sum := rfl; have hu1 : exsW a.parts = a.parts.length + (a.parts.map Ex.wt).sum := rfl;  omega)
set_option maxHeartbeats 400000 in
theorem toExpansion_of (a : Ex) (H : FC Tryz.prog 86 [.one (exS a.parts)] [.one (exS a.parts)]) (hs : a.wt ≤ 1048576) : FC Tryz.prog 33 [exD a] [exD a] := by
 have hW := a.wt_eq
 simp only [exD, exC_eq, fmC_eq, tmC_eq]
 refine FC_of Tryz.call33 Tryz.func33 rfl (by kernel_rfl) (by simp only [rd, List.map_cons, List.map_nil, List.length_cons, List.length_nil, Tryz.ntmps33]; omega) ?_
 simp -implicitDefEqProofs only [go_sem, Tryz.results33]
 refine callF (toFormula_c a.form (by have hu0 : tmsW a.terms = a.terms.length + (a.terms.map Tm.wt).sum := rfl; have hu1 : exsW a.parts = a.parts.length + (a.parts.map Ex.wt).sum := rfl;  omega)) (by simp -implicitDefEqProofs only [go_sem, exC_eq, fmC_eq, tmC_eq, fmC_eq, tmC_eq]) ?_
 simp -implicitDefEqProofs only [go_sem, exC_eq, fmC_eq, tmC_eq, fmC_eq, tmC_eq]
 refine callF (toTermS_c a.terms (by have hu0 : tmsW a.terms = a.terms.length + (a.terms.map Tm.wt).sum := rfl; have hu1 : exsW a.parts = a.parts.length + (a.parts.map Ex.wt).sum := rfl;  omega)) (by simp -implicitDefEqProofs only [go_sem, exC_eq, fmC_eq, tmC_eq]) ?_
 simp -implicitDefEqProofs only [go_sem, exC_eq, fmC_eq, tmC_eq]
 refine callF (H) (by simp -implicitDefEqProofs only [go_sem, exC_eq, fmC_eq, tmC_eq]) ?_
 simp -implicitDefEqProofs only [go_sem, exC_eq, fmC_eq, tmC_eq]
set_option maxHeartbeats 400000 in
theorem eqExpansion_of (a b : Ex) (H : FC Tryz.prog 89 [.one (exS a.parts), .one (exS b.parts)] [bD (same a.parts b.parts)]) : FC Tryz.prog 35 [exD a, exD b] [bD (same a b)] := by
 simp only [exD, exC_eq, fmC_eq, tmC_eq]
 refine FC_of Tryz.call35 Tryz.func35 rfl (by kernel_rfl) (by simp only [rd, List.map_cons, List.map_nil, List.length_cons, List.length_nil, Tryz.ntmps35]; omega) ?_
 simp -implicitDefEqProofs only [go_sem, Tryz.results35]
 refine callF (eqFormula_c a.form b.form) (by simp -implicitDefEqProofs only [go_sem, exC_eq, fmC_eq, tmC_eq, fmC_eq, tmC_eq]) ?_
 simp -implicitDefEqProofs only [go_sem, exC_eq, fmC_eq, tmC_eq, fmC_eq, tmC_eq]
 refine ⟨fun h1 => ?_, fun h1 => ?_⟩
 ·rw [same_no.2 (by rintro rfl; simp [same_self] at h1)]
 refine callF (eqTermS_c a.terms b.terms) (by simp -implicitDefEqProofs only [go_sem, exC_eq, fmC_eq, tmC_eq]) ?_
 simp -implicitDefEqProofs only [go_sem, exC_eq, fmC_eq, tmC_eq]
 refine ⟨fun h2 => ?_, fun h2 => ?_⟩
 ·rw [same_no.2 (by rintro rfl; simp [same_self] at h2)]
 refine callF (H) (by simp -implicitDefEqProofs only [go_sem, exC_eq, fmC_eq, tmC_eq]) ?_
 simp -implicitDefEqProofs only [go_sem, exC_eq, fmC_eq, tmC_eq]
 refine ⟨fun h3 => ?_, fun h3 => ?_⟩
 ·rw [same_no.2 (by rintro rfl; simp [same_self] at h3)]
 rw [same_iff.2 (by cases a; cases b; simp [same_iff, Ex.form, Ex.terms, Ex.parts] at h1 h2 h3 ⊢; simp [h1, h2, h3])]
theorem szExpansion_c : ∀ a : Ex, ∀ l : Int, 0 ≤ l → l ≤ 1048576 → FC Tryz.prog 31 [exD a, iD l] [iD (szR a.wt l)] :=
 ex_ind fun b0 b1 xs ih l h0 h1 => szExpansion_of (.mk b0 b1 xs) (fun l h0 h1 => szExpansionS_of xs ih l h0 h1) l h0 h1
theorem toExpansion_c : ∀ a : Ex, a.wt ≤ 1048576 → FC Tryz.prog 33 [exD a] [exD a] := by
 refine ex_ind fun b0 b1 xs ih hs => ?_
 have hW := Ex.wt_eq (.mk b0 b1 xs)
 simp only [Ex.form, Ex.terms, Ex.parts] at hW
 refine toExpansion_of _ (toExpansionS_of xs (fun x hx => ih x hx ?_) (by omega)) hs
 have := mem_sum Ex.wt xs x hx
 omega
theorem eqExpansion_c : ∀ a b : Ex, FC Tryz.prog 35 [exD a, exD b] [bD (same a b)] :=
 ex_ind fun b0 b1 xs ih b => eqExpansion_of (.mk b0 b1 xs) b (eqExpansionS_of xs b.parts ih)
end Go.Proofs.YtbccfiillleimaaGreat
namespace Go.Proofs.YtbccfiillleimaaGreat
set_option linter.unusedSimpArgs false
set_option linter.unusedVariables false
set_option linter.unusedSectionVars false
set_option maxRecDepth 4000
open Go.RowKit
def isLow (b : UInt8) : Bool := decide (97 ≤ (b.toNat : Int)) && decide ((b.toNat : Int) ≤ 122)
def isDig (b : UInt8) : Bool := decide (48 ≤ (b.toNat : Int)) && decide ((b.toNat : Int) ≤ 57)
def isUp (b : UInt8) : Bool := decide (65 ≤ (b.toNat : Int)) && decide ((b.toNat : Int) ≤ 90)
def isSm (b : UInt8) : Bool := isLow b || isDig b
abbrev uD (b : UInt8) : D := .one (.int .u8 b.toNat)
theorem isLower_c (b : UInt8) : FC Tryz.prog 246 [uD b] [bD (isLow b)] := by
 unfold isLow
 refine FC_of Tryz.call246 Tryz.func246 rfl (by kernel_rfl) (by simp only [rd, List.map_cons, List.map_nil, List.length_cons, List.length_nil, Tryz.ntmps246]; omega) ?_
 simp -implicitDefEqProofs only [go_sem, Tryz.results246]
 refine ⟨fun h => ?_, fun h => ?_⟩ <;> simp at h ⊢ <;> omega
theorem isDigit_c (b : UInt8) : FC Tryz.prog 247 [uD b] [bD (isDig b)] := by
 unfold isDig
 refine FC_of Tryz.call247 Tryz.func247 rfl (by kernel_rfl) (by simp only [rd, List.map_cons, List.map_nil, List.length_cons, List.length_nil, Tryz.ntmps247]; omega) ?_
 simp -implicitDefEqProofs only [go_sem, Tryz.results247]
 refine ⟨fun h => ?_, fun h => ?_⟩ <;> simp at h ⊢ <;> omega
theorem isUpper_c (b : UInt8) : FC Tryz.prog 239 [uD b] [bD (isUp b)] := by
 unfold isUp
 refine FC_of Tryz.call239 Tryz.func239 rfl (by kernel_rfl) (by simp only [rd, List.map_cons, List.map_nil, List.length_cons, List.length_nil, Tryz.ntmps239]; omega) ?_
 simp -implicitDefEqProofs only [go_sem, Tryz.results239]
 refine ⟨fun h => ?_, fun h => ?_⟩ <;> simp at h ⊢ <;> omega
def inB (n lo hi : Int) : Bool := decide (lo ≤ n) && decide (n ≤ hi)
theorem within_c (n lo hi : Int) : FC Tryz.prog 248 [iD n, iD lo, iD hi] [bD (inB n lo hi)] := by
 unfold inB
 refine FC_of Tryz.call248 Tryz.func248 rfl (by kernel_rfl) (by simp only [rd, List.map_cons, List.map_nil, List.length_cons, List.length_nil, Tryz.ntmps248]; omega) ?_
 simp -implicitDefEqProofs only [go_sem, Tryz.results248]
 refine ⟨fun h => ?_, fun h => ?_⟩ <;> simp at h ⊢ <;> omega
theorem l1In_c (n lo hi : Int) : FC Tryz.prog 242 [iD n, iD lo, iD hi] [bD (inB n lo hi)] := by
 unfold inB
 refine FC_of Tryz.call242 Tryz.func242 rfl (by kernel_rfl) (by simp only [rd, List.map_cons, List.map_nil, List.length_cons, List.length_nil, Tryz.ntmps242]; omega) ?_
 simp -implicitDefEqProofs only [go_sem, Tryz.results242]
 refine ⟨fun h => ?_, fun h => ?_⟩ <;> simp at h ⊢ <;> omega
theorem l1Most_c (a b : Int) : FC Tryz.prog 265 [iD a, iD b] [iD (max a b)] := by
 refine FC_of Tryz.call265 Tryz.func265 rfl (by kernel_rfl) (by simp only [rd, List.map_cons, List.map_nil, List.length_cons, List.length_nil, Tryz.ntmps265]; omega) ?_
 simp -implicitDefEqProofs only [go_sem, Tryz.results265]
 refine ⟨fun h => ?_, fun h => ?_⟩ <;> simp at h <;> exact int_eq (by omega)
theorem l2Small_c (b : UInt8) : FC Tryz.prog 243 [uD b] [bD (isSm b)] := by
 unfold isSm isLow isDig
 refine FC_of Tryz.call243 Tryz.func243 rfl (by kernel_rfl) (by simp only [rd, List.map_cons, List.map_nil, List.length_cons, List.length_nil, Tryz.ntmps243]; omega) ?_
 simp -implicitDefEqProofs only [go_sem, Tryz.results243]
 simp only [T.bool.injEq, decide_eq_true_eq, decide_eq_false_iff_not]
 refine ⟨fun h => ⟨fun h2 => ⟨fun h3 => ?_, fun h3 => ?_⟩, fun h2 => ?_⟩, fun h => ⟨fun h2 => ?_, fun h2 => ?_⟩⟩ <;> simp [h, h2] <;> omega
def okAll : Str → Bool
 | [] => true
 | c :: cs => isUp c && cs.all isSm
def varOk (s : Str) : Bool := okAll s && inB s.length 1 4
theorem isVariable_c (s : Str) : FC Tryz.prog 208 [sD s] [bD (varOk s)] := by
 refine FC_wf (fun hw => ?_) Tryz.call208
 have hl : s.length ≤ 9223372036854775807 := by simpa [wfDs, wfT] using hw.1
 refine FC_of Tryz.call208 Tryz.func208 rfl (by kernel_rfl) (by simp only [rd, List.map_cons, List.map_nil, List.length_cons, List.length_nil, Tryz.ntmps208]; omega) ?_
 simp -implicitDefEqProofs only [go_sem, Tryz.results208]
 refine loop_rule (fun k : Nat => hd [(0, vT (.str s)), (5, vI s.length), (6, vI k)] [] []) (fun k => k ≤ s.length ∧ okAll s = if k = 0 then okAll s else (s.drop k).all isSm) (fun k => s.length - k) 0 (weak_hd ?_) ?_ ?_
 ·simp -implicitDefEqProofs only [go_sem]
 ·simp
 ·intro k ⟨hk, hr⟩
  by_cases hlt : k < s.length
  ·by_cases h0 : k = 0
   ·subst h0
    have hl0 : (0 : Int) < s.length := by omega
    have he : okAll s = (isUp (s.getD 0 0) && (s.drop 1).all isSm) := by cases s; exact absurd hlt (by simp); rfl
    simp -implicitDefEqProofs only [go_sem, hlt, hl0]
    refine callF (isUpper_c (s.getD 0 0)) (by simp -implicitDefEqProofs only [go_sem]) ?_
    simp -implicitDefEqProofs only [go_sem]
    refine ⟨fun h => ⟨1, ⟨hlt, ?_⟩, by omega, weak_hd (by simp -implicitDefEqProofs only [go_sem]; rw [wrap_in (by omega) (by omega)])⟩, fun h => ?_⟩
    ·have : isUp (s.getD 0 0) = true := by simpa using h
     rw [he, this]; rfl
    ·have : isUp (s.getD 0 0) = false := by simpa using h
     rw [varOk, he, this]; rfl
   ·have h1 : ((k : Int) == 0) = false := by simp; omega
    have h2 : (0 : Int) < k := by omega
    have hg : s.getD k 0 = s[k] := by simp [List.getD, hlt]
    rw [if_neg h0, List.drop_eq_getElem_cons hlt, List.all_cons] at hr
    simp -implicitDefEqProofs only [go_sem, hlt, h1, h2]
    refine callF (isLower_c (s.getD k 0)) (by simp -implicitDefEqProofs only [go_sem]) ?_
    simp -implicitDefEqProofs only [go_sem]
    simp only [hg]
    refine ⟨fun h => ⟨hlt, ?_⟩, fun h => ?_⟩
    ·refine callF (isDigit_c s[k]) (by simp -implicitDefEqProofs only [go_sem]) ?_
     simp -implicitDefEqProofs only [go_sem]
     refine ⟨fun h' => ?_, fun h' => ⟨k + 1, ⟨hlt, ?_⟩, by omega, weak_hd (by simp -implicitDefEqProofs only [go_sem]; rw [wrap_s (by omega)])⟩⟩
     ·have : isSm s[k] = false := by simp [isSm]; simp at h h'; exact ⟨h, h'⟩
      simp [varOk, hr, this]
     ·have : isSm s[k] = true := by simp [isSm]; right; simpa using h'
      rw [hr, this]; simp
    ·refine ⟨k + 1, ⟨hlt, ?_⟩, by omega, weak_hd (by simp -implicitDefEqProofs only [go_sem]; rw [wrap_s (by omega)])⟩
     have : isSm s[k] = true := by simp [isSm]; left; simpa using h
     rw [hr, this]; simp
  ·simp -implicitDefEqProofs only [go_sem, hlt]
   refine callF (within_c s.length 1 4) (by simp -implicitDefEqProofs only [go_sem]) ?_
   simp -implicitDefEqProofs only [go_sem]
   have : okAll s = true := by
    by_cases h0 : k = 0
    ·have : s = [] := List.length_eq_zero_iff.1 (by omega)
     rw [this]; rfl
    ·rw [hr, if_neg h0, List.drop_of_length_le (by omega)]; rfl
   simp [varOk, this]
end Go.Proofs.YtbccfiillleimaaGreat
namespace Go.Proofs.YtbccfiillleimaaGreat
set_option linter.unusedSimpArgs false
set_option linter.unusedVariables false
set_option linter.unusedSectionVars false
set_option maxRecDepth 4000
open Go.RowKit
abbrev strS (xs : List Str) : T := .sl 1 (xs.map fun s => [.str s])
theorem idx_found {α : Type} [BEq α] [LawfulBEq α] {xs : List α} {s : α} {k : Nat} (hk : k < xs.length) (hn : s ∉ xs.take k) (e : xs[k] = s) : xs.idxOf s = k := by
 have h : xs = xs.take k ++ xs.drop k := (List.take_append_drop k xs).symm
 rw [List.drop_eq_getElem_cons hk] at h
 rw [h, List.idxOf_append, if_neg hn, e]
 rw [show (s :: xs.drop (k + 1)).idxOf s = 0 from List.idxOf_cons_self ..]
 simp; omega
theorem not_take_succ {α : Type} {xs : List α} {s : α} {k : Nat} (hk : k < xs.length) (hn : s ∉ xs.take k) (e : xs[k] ≠ s) : s ∉ xs.take (k + 1) := by
 rw [List.take_succ_eq_append_getElem hk]
 simp only [List.mem_append, List.mem_singleton, not_or]
 exact ⟨hn, fun h => e h.symm⟩
def idxS {α : Type} [BEq α] (xs : List α) (s : α) : Int := if xs.contains s then xs.idxOf s else -1
theorem indexStr_c (xs : List Str) (s : Str) : FC Tryz.prog 203 [.one (strS xs), sD s] [iD (idxS xs s)] := by
 refine FC_wf (fun hw => ?_) Tryz.call203
 have hl : xs.length ≤ 9223372036854775807 := by simpa [wfDs, wfT] using hw.1.1
 refine FC_of Tryz.call203 Tryz.func203 rfl (by kernel_rfl) (by simp only [rd, List.map_cons, List.map_nil, List.length_cons, List.length_nil, Tryz.ntmps203]; omega) ?_
 simp -implicitDefEqProofs only [go_sem, Tryz.results203]
 refine loop_rule (fun k : Nat => hd [(0, vT (strS xs)), (1, vT (.str s)), (7, vI xs.length), (8, vI k)] [] []) (fun k => k ≤ xs.length ∧ s ∉ xs.take k) (fun k => xs.length - k) 0 (weak_hd ?_) ?_ ?_
 ·simp -implicitDefEqProofs only [go_sem]
 ·simp
 ·intro k ⟨hk, hr⟩
  by_cases hlt : k < xs.length
  ·simp -implicitDefEqProofs only [go_sem, getD_at, hlt]
   refine ⟨fun h => ?_, fun h => ?_⟩
   ·have e : xs[k] = s := (beq_iff_eq.1 h).symm
    have hm : s ∈ xs := e ▸ List.getElem_mem hlt
    rw [idxS, if_pos (by simpa using hm), idx_found hlt hr e]
   ·have e : xs[k] ≠ s := fun e => by simp [e] at h
    exact ⟨k + 1, ⟨hlt, not_take_succ hlt hr e⟩, by omega, weak_hd (by simp -implicitDefEqProofs only [go_sem]; rw [wrap_s (by omega)])⟩
  ·simp -implicitDefEqProofs only [go_sem, hlt]
   rw [List.take_of_length_le (by omega)] at hr
   rw [idxS, if_neg (by simpa using hr)]
theorem containsStr_c (xs : List Str) (s : Str) : FC Tryz.prog 149 [.one (strS xs), sD s] [bD (xs.contains s)] := by
 refine FC_of Tryz.call149 Tryz.func149 rfl (by kernel_rfl) (by simp only [rd, List.map_cons, List.map_nil, List.length_cons, List.length_nil, Tryz.ntmps149]; omega) ?_
 simp -implicitDefEqProofs only [go_sem, Tryz.results149]
 refine callF (indexStr_c xs s) (by simp -implicitDefEqProofs only [go_sem]) ?_
 simp -implicitDefEqProofs only [go_sem]
 unfold idxS
 cases h : xs.contains s <;> simp
def resW : List Str := [[116, 114, 117, 101], [102, 97, 108, 115, 101], [116, 114, 117, 116, 104], [98, 111, 116, 104], [101, 105, 116, 104, 101, 114], [105, 102], [97, 108, 108], [115, 111, 109, 101]]
theorem reserved_c : FC Tryz.prog 261 [] [.one (strS resW)] := by
 refine FC_of Tryz.call261 Tryz.func261 rfl (by kernel_rfl) (by simp only [rd, List.map_cons, List.map_nil, List.length_cons, List.length_nil, Tryz.ntmps261]; omega) ?_
 simp -implicitDefEqProofs only [go_sem, Tryz.results261]
 refine buildDc (by simp -implicitDefEqProofs only [go_sem]) ?_
 simp -implicitDefEqProofs only [go_sem]
 rfl
def isNx (b : UInt8) : Bool := isSm b || b == 95
def symAll : Str → Bool
 | [] => true
 | c :: cs => isLow c && cs.all isNx
def symOk (s : Str) : Bool := symAll s && inB s.length 1 6 && !resW.contains s
theorem u8_eq {b : UInt8} {n : Nat} (hn : n < 256) : ((b.toNat : Int) == (n : Int)) = (b == UInt8.ofNat n) := by
 rw [Bool.eq_iff_iff]
 simp only [beq_iff_eq]
 constructor
 ·intro h
  apply UInt8.toNat_inj.1
  simp [UInt8.toNat_ofNat]
  omega
 ·intro h
  subst h
  simp [UInt8.toNat_ofNat]
  omega
theorem isSymbol_c (s : Str) : FC Tryz.prog 237 [sD s] [bD (symOk s)] := by
 refine FC_wf (fun hw => ?_) Tryz.call237
 have hl : s.length ≤ 9223372036854775807 := by simpa [wfDs, wfT] using hw.1
 refine FC_of Tryz.call237 Tryz.func237 rfl (by kernel_rfl) (by simp only [rd, List.map_cons, List.map_nil, List.length_cons, List.length_nil, Tryz.ntmps237]; omega) ?_
 simp -implicitDefEqProofs only [go_sem, Tryz.results237]
 refine loop_rule (fun k : Nat => hd [(0, vT (.str s)), (5, vI s.length), (6, vI k)] [] []) (fun k => k ≤ s.length ∧ symAll s = if k = 0 then symAll s else (s.drop k).all isNx) (fun k => s.length - k) 0 (weak_hd ?_) ?_ ?_
 ·simp -implicitDefEqProofs only [go_sem]
 ·simp
 ·intro k ⟨hk, hr⟩
  by_cases hlt : k < s.length
  ·by_cases h0 : k = 0
   ·subst h0
    have hl0 : (0 : Int) < s.length := by omega
    have he : symAll s = (isLow (s.getD 0 0) && (s.drop 1).all isNx) := by cases s; exact absurd hlt (by simp); rfl
    simp -implicitDefEqProofs only [go_sem, hlt, hl0]
    refine callF (isLower_c (s.getD 0 0)) (by simp -implicitDefEqProofs only [go_sem]) ?_
    simp -implicitDefEqProofs only [go_sem]
    refine ⟨fun h => ⟨hl0, ?_⟩, fun h => ?_⟩
    ·have hi : isLow (s.getD 0 0) = true := by simpa using h
     refine callF (isLower_c (s.getD 0 0)) (by simp -implicitDefEqProofs only [go_sem, hi]) ?_
     simp -implicitDefEqProofs only [go_sem, hi]
     refine ⟨1, ⟨hlt, ?_⟩, by omega, weak_hd (by simp -implicitDefEqProofs only [go_sem]; rw [wrap_in (by omega) (by omega)])⟩
     rw [he, hi]; rfl
    ·have : isLow (s.getD 0 0) = false := by simpa using h
     rw [symOk, he, this]; rfl
   ·have h1 : ((k : Int) == 0) = false := by simp; omega
    have h2 : (0 : Int) < k := by omega
    have hg : s.getD k 0 = s[k] := by simp [List.getD, hlt]
    rw [if_neg h0, List.drop_eq_getElem_cons hlt, List.all_cons] at hr
    simp -implicitDefEqProofs only [go_sem, hlt, h1, h2]
    refine callF (isLower_c (s.getD k 0)) (by simp -implicitDefEqProofs only [go_sem]) ?_
    simp -implicitDefEqProofs only [go_sem]
    simp only [hg]
    refine ⟨fun h => ⟨hlt, ?_⟩, fun h => ?_⟩
    ·refine callF (isDigit_c s[k]) (by simp -implicitDefEqProofs only [go_sem]) ?_
     simp -implicitDefEqProofs only [go_sem]
     simp only [hg]
     refine ⟨fun h' => ⟨hlt, fun h'' => ?_, fun h'' => ⟨k + 1, ⟨hlt, ?_⟩, by omega, weak_hd (by simp -implicitDefEqProofs only [go_sem]; rw [wrap_s (by omega)])⟩⟩, fun h' => ⟨k + 1, ⟨hlt, ?_⟩, by omega, weak_hd (by simp -implicitDefEqProofs only [go_sem]; rw [wrap_s (by omega)])⟩⟩
     ·have : isNx s[k] = false := by
       have := u8_eq (b := s[k]) (n := 95) (by omega)
       simp [isNx, isSm] at h h' ⊢
       refine ⟨⟨h, h'⟩, fun e => ?_⟩
       rw [e] at h''
       simp at h''
      rw [symOk, hr, this]; rfl
     ·have : isNx s[k] = true := by
       have := u8_eq (b := s[k]) (n := 95) (by omega)
       simp [isNx] at h'' ⊢
       right
       simpa [h''] using this
      rw [hr, this]; rfl
     ·have : isNx s[k] = true := by simp [isNx, isSm]; simp at h'; simp [h']
      rw [hr, this]; rfl
    ·refine ⟨k + 1, ⟨hlt, ?_⟩, by omega, weak_hd (by simp -implicitDefEqProofs only [go_sem]; rw [wrap_s (by omega)])⟩
     have : isNx s[k] = true := by simp [isNx, isSm]; simp at h; simp [h]
     rw [hr, this]; rfl
  ·simp -implicitDefEqProofs only [go_sem, hlt]
   refine callF (within_c s.length 1 6) (by simp -implicitDefEqProofs only [go_sem]) ?_
   simp -implicitDefEqProofs only [go_sem]
   have ha : symAll s = true := by
    by_cases h0 : k = 0
    ·have : s = [] := List.length_eq_zero_iff.1 (by omega)
     rw [this]; rfl
    ·rw [hr, if_neg h0, List.drop_of_length_le (by omega)]; rfl
   refine ⟨fun h => ?_, fun h => ?_⟩
   ·refine callF (reserved_c) (by simp -implicitDefEqProofs only [go_sem]) ?_
    simp -implicitDefEqProofs only [go_sem]
    refine callF (containsStr_c resW s) (by simp -implicitDefEqProofs only [go_sem]) ?_
    simp -implicitDefEqProofs only [go_sem]
    rw [symOk, ha, h]; rfl
   ·rw [symOk, ha, h]; rfl
end Go.Proofs.YtbccfiillleimaaGreat
namespace Go.Proofs.YtbccfiillleimaaGreat
set_option linter.unusedSimpArgs false
set_option linter.unusedVariables false
set_option linter.unusedSectionVars false
set_option maxRecDepth 4000
open Go.RowKit Go.Sort Go.Proofs
variable {P : Program}
theorem own_strs {w : World} : ∀ {ss : List Str} {vs : List Value} {fps : List Nat}, OwnAll w (ss.map T.str) vs fps → vs = ss.map encStr ∧ fps = [] ∧ ∀ s ∈ ss, s.length ≤ maxI
 | [], vs, fps, h => ⟨h.1, h.2, by simp⟩
 | s :: ss, vs, fps, h => by
  obtain ⟨v, vs', f1, f2, rfl, rfl, h1, h2⟩ := h
  unfold OwnV at h1
  obtain ⟨rfl, k1, rfl⟩ := h1
  obtain ⟨rfl, rfl, k2⟩ := own_strs h2
  exact ⟨rfl, rfl, fun x hx => (List.mem_cons.1 hx).elim (fun e => e ▸ k1) (k2 x)⟩
theorem strs_own {w : World} : ∀ {ss : List Str}, (∀ s ∈ ss, s.length ≤ maxI) → OwnAll w (ss.map T.str) (ss.map encStr) []
 | [], _ => ⟨rfl, rfl⟩
 | s :: ss, h => ⟨_, _, [], [], rfl, rfl, by unfold OwnV; exact ⟨rfl, h s (by simp), rfl⟩, strs_own fun x hx => h x (by simp [hx])⟩
theorem strs_flat (ss : List Str) : (ss.map fun s => [T.str s]).flatten = ss.map T.str := by induction ss <;> simp_all
theorem strs_lens (ss : List Str) : lens 1 (ss.map fun s => [T.str s]) := fun r hr => by obtain ⟨s, _, rfl⟩ := List.mem_map.1 hr; rfl
abbrev sortS (ss : List Str) : List Str := ss.mergeSort leB
theorem sort_IC {f : FuncId} (hc : Callable P f) (hS : ∀ (blk off cap : Nat) (ss : List (List UInt8)) (w : World), Holds encStr w blk off ss.toArray → blk < w.heap.size → ss.length < 4611686018427387904 →
   Calls P f #[.slice (some ⟨blk, off, none⟩) ss.length cap] w fun e w' => e = .returned (.tuple #[]) ∧ ∃ n os, w' = grow (putRow encStr (Sort.ahead w n) blk off (ss.mergeSort fun x y => decide (x ≤ y)).toArray) os)
  (hN : ∀ (p : Option Addr) (cap : Nat) (w : World), Calls P f #[.slice p 0 cap] w fun e w' => e = .returned (.tuple #[]) ∧ w' = w) (ss : List Str) (hl : ss.length < 4611686018427387904) : IC P f [] (.one (strS ss)) [] (.one (strS (sortS ss))) [] := by
 refine ⟨hc, fun w us1 v us2 fp tp h1 hg h2 hn => ?_⟩
 rw [show us1 = [] from h1, show us2 = [] from h2]
 obtain ⟨hg, _⟩ := hg
 unfold OwnV at hg
 obtain ⟨ao, cap, rfl, q1, q2, q3⟩ := hg
 rw [List.length_map] at q1 ⊢
 rcases q3 with ⟨rfl, rfl, q3, rfl⟩ | ⟨b, cells, ty, fps, rfl, rfl, q3, q4, q5⟩
 ·have hs : ss = [] := List.map_eq_nil_iff.1 q3
  subst hs
  refine (hN none 0 w).mono ?_
  rintro e w' ⟨rfl, rfl⟩
  refine ⟨[], [], [], rfl, ⟨_, [], [], [], [], [], rfl, rfl, rfl, ⟨?_, rfl⟩, rfl, rfl, rfl⟩, List.nodup_nil, by simp, Bk.refl _ _⟩
  unfold OwnV
  exact ⟨none, 0, by simp [sortS], by simp [sortS], by simp, Or.inl ⟨rfl, rfl, by simp [sortS], rfl⟩⟩
 ·obtain ⟨_, vs, k1, k2, k3⟩ := q5.vals
  rw [strs_flat] at k3
  obtain ⟨rfl, rfl, k4⟩ := own_strs k3
  have hsz : ss.length ≤ cells.size := by omega
  have ht : cells.toList.take ss.length = ss.map encStr := by
   apply List.ext_getElem?
   intro j
   by_cases hj : j < ss.length
   ·rw [List.getElem?_take_of_lt hj, Array.getElem?_toList]
    have := k2 j _ (List.getElem?_eq_getElem (by simpa using hj))
    rw [Nat.zero_add] at this
    rw [this, List.getElem?_eq_getElem (by simpa using hj)]
   ·rw [List.getElem?_take_eq_none (by omega), List.getElem?_eq_none (by simp; omega)]
  refine (hS b 0 cap ss w (holds_of_block q3 ht) (Array.getElem?_eq_some_iff.1 q3).1 hl).mono ?_
  rintro e w' ⟨rfl, n, os, rfl⟩
  have hgr := grownBy_sorted (w := w) (g := b) (n := n) (os := os) (ss.mergeSort fun x y => decide (x ≤ y)).toArray
  have hlen : (sortS ss).length = ss.length := by simp [sortS]
  have htk := take_putCells cells (sortS ss) (by omega)
  refine ⟨[], [b], [b], rfl, ⟨_, [], [b], [], [b], [], rfl, rfl, rfl, ⟨?_, rfl⟩, rfl, rfl, rfl⟩, by simp, fun x hx => Or.inl hx, ⟨hgr.os, hgr.tape, hgr.output, hgr.size, fun k hk => hgr.block k hk.1 fun e => hk.2 (by cases e; simp)⟩⟩
  unfold OwnV
  refine ⟨_, cap, by rw [List.length_map, hlen], by rw [List.length_map, hlen]; exact q1, q2, Or.inr ⟨b, _, ty, [], rfl, rfl, heap_sorted _ q3, by simp [putCells, q4], ?_⟩⟩
  refine OwnRows.of_vals (strs_lens _) (by rw [strs_flat]; exact strs_own fun s hs => k4 s ((List.mergeSort_perm ss leB).mem_iff.1 hs)) fun j u hu => ?_
  rw [← htk, List.getElem?_take] at hu
  split at hu
  ·simpa using hu
  ·cases hu
structure CloneOf (P : Program) (f : FuncId) (sz bytes : Nat) : Prop where
 call : Callable P f
 old : ∀ (ad : Addr) (n c : Nat) (news : List Value) (w : World), news.length = n * sz → n ≤ maxLen → n * bytes ≤ 140737488355328 → (∀ j u, news[j]? = some u → w.cell? (ad.add j) = some u) → (∀ u ∈ news, u.oneCell' = true) →
  Calls P f #[.slice (some ad) n c] w fun e w' => ∃ t v', e = .returned v' ∧ w'.ownsRow w.heap.size t sz v' n news ∧ v' ≠ .slice none 0 0 ∧ Below w.heap.size w w'
 none : ∀ (n c : Nat) (w : World), Calls P f #[.slice none n c] w fun e w' => e = .returned (.slice none 0 0) ∧ w' = w
theorem RepRows.valsA {w : World} {A : Nat → Prop} {b sz : Nat} {rows : List (List T)} {o : Nat} (h : RepRows w A b o sz rows) : ∃ vs, vs.length = rows.length * sz ∧ (∀ j u, vs[j]? = some u → w.cell? ⟨b, o + j, none⟩ = some u) ∧ RepAll w A rows.flatten vs ∧ lens sz rows := by
 obtain ⟨h1, vs, h2, h3, h4⟩ := h.vals
 exact ⟨vs, h2, h3, h4, h1⟩
theorem clone_run {f : FuncId} {sz bytes : Nat} (h : CloneOf P f sz bytes) (rows : List (List T)) (hb : rows.length * bytes ≤ 140737488355328) {w : World} {A : Nat → Prop} {v : Value} (h1 : RepV w A (.sl sz rows) v) :
  Calls P f #[v] w fun e w' => ∃ v', e = .returned v' ∧ Below w.heap.size w w' ∧ ((v' = .slice none 0 0 ∧ rows = []) ∨ ∃ g cap cur ty vs, v' = .slice (some ⟨g, 0, none⟩) rows.length cap ∧ w.heap.size ≤ g ∧ w'.heap[g]? = some (.cells cur ty (0, 0)) ∧ rows.length ≤ cap ∧ cap ≤ maxI ∧ cur.size = cap * sz ∧ cur.toList.take (rows.length * sz) = vs ∧ RepAll w A rows.flatten vs ∧ lens sz rows) := by
 unfold RepV at h1
 obtain ⟨ao, cap, rfl, q1, q2, q3⟩ := h1
 cases ao with
 | none =>
  have hr : rows = [] := q3.resolve_right fun ⟨b, o, e, _⟩ => by cases e
  refine (h.none rows.length cap w).mono ?_
  rintro e w' ⟨rfl, rfl⟩
  exact ⟨_, rfl, Below.refl _ _, Or.inl ⟨rfl, hr⟩⟩
 | some ad =>
  have hx : ∃ news : List Value, news.length = rows.length * sz ∧ (∀ j u, news[j]? = some u → w.cell? (ad.add j) = some u) ∧ RepAll w A rows.flatten news ∧ lens sz rows := by
   rcases q3 with rfl | ⟨b', o', e, _, q4⟩
   ·exact ⟨[], by simp, fun j u hj => by simp at hj, by unfold RepAll; rfl, fun r hr => by simp at hr⟩
   ·cases e
    obtain ⟨news, k1, k2, k3, k4⟩ := q4.valsA
    exact ⟨news, k1, fun j u hj => by rw [addr_add]; exact k2 j u hj, k3, k4⟩
  obtain ⟨news, k1, k2, k3, k4⟩ := hx
  refine (h.old ad rows.length cap news w k1 (by unfold maxLen; have := q2; unfold maxI at this; omega) hb k2 k3.one).mono ?_
  rintro e w' ⟨t, v', rfl, ⟨o1, o2⟩, hn, hbel⟩
  refine ⟨v', rfl, hbel, Or.inr ?_⟩
  rcases o2 with ⟨e, _⟩ | ⟨g, cap', cur, e, p1, p2, p3, p4, p5, p6⟩
  ·exact absurd e hn
  ·exact ⟨g, cap', cur, t, news, e, p1, p2, p3, by unfold maxLen at p4; omega, p5, p6, k3, k4⟩
theorem take_at {cur : Array Value} {vs : List Value} {n : Nat} (h : cur.toList.take n = vs) : ∀ j u, vs[j]? = some u → cur[0 + j]? = some u := fun j u hu => by
 rw [← h, List.getElem?_take] at hu
 split at hu
 ·simpa using hu
 ·cases hu
theorem clone_FC {f : FuncId} {sz bytes : Nat} (h : CloneOf P f sz bytes) (rows : List (List T)) (hb : rows.length * bytes ≤ 140737488355328) (hf : ∀ c ∈ rows.flatten, c.flat = true) : FC P f [.one (.sl sz rows)] [.one (.sl sz rows)] := by
 refine ⟨h.call, fun w vs fp tp hv hn => ?_⟩
 obtain ⟨hr, rfl, rfl⟩ := repds_of_gargs hv
 obtain ⟨v, _, rfl, h1, rfl⟩ := hr
 refine (clone_run h rows hb h1).mono ?_
 rintro e w' ⟨v', rfl, hbel, hh⟩
 have hB : Bk (fun k => k < w.heap.size ∧ k ∉ ([] : List Nat)) w w' := ⟨hbel.os, hbel.tape, hbel.output, hbel.size, fun k hk => hbel.block k hk.1⟩
 rcases hh with ⟨rfl, hr⟩ | ⟨g, cap, cur, ty, vs, rfl, p1, p2, p3, p4, p5, p6, p7, p8⟩
 ·subst hr
  refine ⟨[_], [], [], rfl, ⟨_, [], [], [], [], [], rfl, rfl, rfl, ⟨?_, rfl⟩, rfl, rfl, rfl⟩, List.nodup_nil, by simp, hB⟩
  unfold OwnV
  exact ⟨Option.none, 0, rfl, Nat.le_refl _, by simp, Or.inl ⟨rfl, rfl, rfl, rfl⟩⟩
 ·refine ⟨[_], [g], [g], rfl, ⟨_, [], [g], [], [g], [], rfl, rfl, rfl, ⟨?_, rfl⟩, rfl, rfl, rfl⟩, by simp, fun b hb => by rw [List.mem_singleton.1 hb]; exact Or.inr p1, hB⟩
  unfold OwnV
  refine ⟨_, cap, rfl, p3, p4, Or.inr ⟨g, cur, ty, [], rfl, rfl, p2, p5, ?_⟩⟩
  have hown := RepAll.own p7 hf
  exact OwnRows.of_vals p8 (OwnAll.keep hown fun b hb => by simp at hb) fun j u hu => take_at p6 j u hu
theorem less_eq (a b : Str) : Op.bytesLess a b = decide (a < b) := bytesLess_eq a b
def Srt (xs : List Str) : Prop := xs.Pairwise (· < ·)
theorem str_irr (a : Str) : ¬ a < a := List.lt_irrefl a
theorem srt_nodup {xs : List Str} (h : Srt xs) : xs.Nodup := List.Pairwise.imp (fun {a b} (h : a < b) (e : a = b) => str_irr b (e ▸ h)) h
theorem srt_ext {xs ys : List Str} (hx : Srt xs) (hy : Srt ys) (h : ∀ s, s ∈ xs ↔ s ∈ ys) : xs = ys := by
 have hp : xs.Perm ys := (List.perm_ext_iff_of_nodup (srt_nodup hx) (srt_nodup hy)).2 h
 exact hp.eq_of_pairwise (le := fun a b => a < b) (fun a b _ _ h1 h2 => absurd (List.lt_trans h1 h2) (str_irr a)) hx hy
theorem str_le {a b : Str} (h : a ≤ b) : a < b ∨ a = b := by
 by_cases h1 : a < b
 ·exact Or.inl h1
 ·exact Or.inr (List.le_antisymm h (List.not_lt.1 h1))
theorem sortS_mem (xs : List Str) (s : Str) : s ∈ sortS xs ↔ s ∈ xs := (List.mergeSort_perm xs leB).mem_iff
theorem sortS_srt {xs : List Str} (h : xs.Nodup) : Srt (sortS xs) := by
 have tr : ∀ a b c : List UInt8, leB a b = true → leB b c = true → leB a c = true := fun a b c h1 h2 => by simp only [leB, decide_eq_true_eq] at *; exact List.le_trans h1 h2
 have to : ∀ a b : List UInt8, (leB a b || leB b a) = true := fun a b => by simp only [leB, Bool.or_eq_true, decide_eq_true_eq]; exact List.le_total a b
 have hs := List.pairwise_mergeSort tr to xs
 have hn : (sortS xs).Nodup := (List.mergeSort_perm xs leB).nodup_iff.2 h
 refine (List.Pairwise.and hs hn).imp ?_
 rintro a b ⟨h1, h2⟩
 simp only [leB, decide_eq_true_eq] at h1
 exact (str_le h1).resolve_right h2
def putS (l : List Str) (s : Str) : List Str := if (l.dropWhile fun x => Op.bytesLess x s).head? = some s then l else (l.takeWhile fun x => Op.bytesLess x s) ++ [s] ++ l.dropWhile fun x => Op.bytesLess x s
theorem putS_mem (l : List Str) (s x : Str) : x ∈ putS l s ↔ x = s ∨ x ∈ l := by
 have e : l = (l.takeWhile fun x => Op.bytesLess x s) ++ l.dropWhile fun x => Op.bytesLess x s := (List.takeWhile_append_dropWhile).symm
 unfold putS
 split
 ·rename_i h
  have : s ∈ l := by rw [e]; exact List.mem_append_right _ (List.mem_of_mem_head? h)
  exact ⟨Or.inr, fun h => h.elim (fun e => e ▸ this) id⟩
 ·conv => rhs; rw [e]
  simp only [List.mem_append, List.mem_singleton, or_assoc]
  constructor
  ·rintro (h | h | h)
   ·exact Or.inr (Or.inl h)
   ·exact Or.inl h
   ·exact Or.inr (Or.inr h)
  ·rintro (h | h | h)
   ·exact Or.inr (Or.inl h)
   ·exact Or.inl h
   ·exact Or.inr (Or.inr h)
theorem dropWhile_head {l : List Str} {p : Str → Bool} {x : Str} (h : (l.dropWhile p).head? = some x) : p x = false := by
 induction l with
 | nil => simp at h
 | cons a l ih =>
  rw [List.dropWhile_cons] at h
  split at h
  ·exact ih h
  ·rename_i hp; simp only [List.head?_cons, Option.some.injEq] at h; subst h; simpa using hp
theorem putS_srt {l : List Str} (h : Srt l) (s : Str) : Srt (putS l s) := by
 unfold putS
 split
 ·exact h
 ·rename_i hne
  have e : (l.takeWhile fun x => Op.bytesLess x s) ++ (l.dropWhile fun x => Op.bytesLess x s) = l := List.takeWhile_append_dropWhile
  have h' := h
  rw [← e] at h'
  obtain ⟨h1, h2, h3⟩ := List.pairwise_append.1 h'
  have ht : ∀ a ∈ l.takeWhile fun x => Op.bytesLess x s, a < s := fun a ha => by
   have := List.all_takeWhile (l := l) (p := fun x => Op.bytesLess x s)
   have := List.all_eq_true.1 this a ha
   rw [less_eq] at this
   exact of_decide_eq_true this
  have hd : ∀ a ∈ l.dropWhile fun x => Op.bytesLess x s, s < a := fun a ha => by
   cases hD : l.dropWhile fun x => Op.bytesLess x s with
   | nil => rw [hD] at ha; simp at ha
   | cons y ys =>
    have hy := dropWhile_head (l := l) (p := fun x => Op.bytesLess x s) (x := y) (by rw [hD]; rfl)
    have hys : s < y := by
     have h0 : ¬ y < s := by rw [less_eq] at hy; exact of_decide_eq_false hy
     rcases str_le (List.not_lt.1 h0) with h | h
     ·exact h
     ·exact absurd (by rw [hD, h]; rfl) hne
    rw [hD] at ha h2
    rcases List.mem_cons.1 ha with rfl | ha
    ·exact hys
    ·exact List.lt_trans hys ((List.pairwise_cons.1 h2).1 a ha)
  rw [List.append_assoc]
  refine List.pairwise_append.2 ⟨h1, ?_, fun a ha b hb => ?_⟩
  ·exact List.pairwise_cons.2 ⟨hd, h2⟩
  ·rcases List.mem_cons.1 hb with rfl | hb
   ·exact ht a ha
   ·exact h3 a ha b hb
end Go.Proofs.YtbccfiillleimaaGreat
namespace Go.Proofs
open Go.Shelf
set_option maxRecDepth 100000
def Tryz.lays190_ren : Go.Shelf.Ren := ⟨fun | 190 => 118 | 125 => 187 | 258 => 186 | 128 => 231 | 129 => 232 | 302 => 222 | 303 => 223 | 304 => 224 | 305 => 225 | 306 => 226 | 307 => 227 | 308 => 228 | 309 => 229 | 310 => 230 | 333 => 255 | 329 => 256 | 330 => 257 | 334 => 258 | 335 => 259 | 336 => 260 | 344 => 266 | n => n, fun | 31 => 70 | 9 => 9 | 3 => 3 | 46 => 148 | 0 => 0 | 51 => 212 | 53 => 214 | 4 => 4 | 183 => 204 | 182 => 203 | 131 => 209 | 5 => 5 | 218 => 223 | 222 => 227 | 228 => 234 | 229 => 235 | n => n, fun | n => n⟩
theorem Tryz.lays190 : Go.Proofs.Lays.n190 Tryz.prog Tryz.lays190_ren := {
 mixed := by kernel_rfl
 f125 := Tryz.func187.trans (congrArg some (by kernel_rfl))
 f128 := Tryz.func231.trans (congrArg some (by kernel_rfl))
 f129 := Tryz.func232.trans (congrArg some (by kernel_rfl))
 f190 := Tryz.func118.trans (congrArg some (by kernel_rfl))
 f258 := Tryz.func186.trans (congrArg some (by kernel_rfl))
 f302 := Tryz.func222.trans (congrArg some (by kernel_rfl))
 f303 := Tryz.func223.trans (congrArg some (by kernel_rfl))
 f304 := Tryz.func224.trans (congrArg some (by kernel_rfl))
 f305 := Tryz.func225.trans (congrArg some (by kernel_rfl))
 f306 := Tryz.func226.trans (congrArg some (by kernel_rfl))
 f307 := Tryz.func227.trans (congrArg some (by kernel_rfl))
 f308 := Tryz.func228.trans (congrArg some (by kernel_rfl))
 f309 := Tryz.func229.trans (congrArg some (by kernel_rfl))
 f310 := Tryz.func230.trans (congrArg some (by kernel_rfl))
 f329 := Tryz.func256.trans (congrArg some (by kernel_rfl))
 f330 := Tryz.func257.trans (congrArg some (by kernel_rfl))
 f333 := Tryz.func255.trans (congrArg some (by kernel_rfl))
 f334 := Tryz.func258.trans (congrArg some (by kernel_rfl))
 f335 := Tryz.func259.trans (congrArg some (by kernel_rfl))
 f336 := Tryz.func260.trans (congrArg some (by kernel_rfl))
 f344 := Tryz.func266.trans (congrArg some (by kernel_rfl))
 t0 := Tryz.underlying0
 a0 := Tryz.isAgg0
 z0 := Tryz.sizeOf0
 v0 := Tryz.zeroValue0
 t3 := Tryz.underlying3
 a3 := Tryz.isAgg3
 z3 := Tryz.sizeOf3
 v3 := Tryz.zeroValue3
 t4 := Tryz.underlying4
 a4 := Tryz.isAgg4
 z4 := Tryz.sizeOf4
 v4 := Tryz.zeroValue4
 t5 := Tryz.underlying5
 a5 := Tryz.isAgg5
 z5 := Tryz.sizeOf5
 v5 := Tryz.zeroValue5
 t9 := Tryz.underlying9
 a9 := Tryz.isAgg9
 z9 := Tryz.sizeOf9
 v9 := Tryz.zeroValue9
 t31 := Tryz.underlying70
 a31 := Tryz.isAgg70
 z31 := Tryz.sizeOf70
 v31 := Tryz.zeroValue70
 t46 := Tryz.underlying148
 a46 := Tryz.isAgg148
 z46 := Tryz.sizeOf148
 v46 := Tryz.zeroValue148
 t51 := Tryz.underlying212
 a51 := Tryz.isAgg212
 z51 := Tryz.sizeOf212
 v51 := Tryz.zeroValue212
 t53 := Tryz.underlying214
 a53 := Tryz.isAgg214
 z53 := Tryz.sizeOf214
 v53 := Tryz.zeroValue214
 t131 := Tryz.underlying209
 a131 := Tryz.isAgg209
 z131 := Tryz.sizeOf209
 v131 := Tryz.zeroValue209
 t182 := Tryz.underlying203
 a182 := Tryz.isAgg203
 z182 := Tryz.sizeOf203
 v182 := Tryz.zeroValue203
 t183 := Tryz.underlying204
 a183 := Tryz.isAgg204
 z183 := Tryz.sizeOf204
 v183 := Tryz.zeroValue204
 t218 := Tryz.underlying223
 a218 := Tryz.isAgg223
 z218 := Tryz.sizeOf223
 v218 := Tryz.zeroValue223
 t222 := Tryz.underlying227
 a222 := Tryz.isAgg227
 z222 := Tryz.sizeOf227
 v222 := Tryz.zeroValue227
 t228 := Tryz.underlying234
 a228 := Tryz.isAgg234
 z228 := Tryz.sizeOf234
 v228 := Tryz.zeroValue234
 t229 := Tryz.underlying235
 a229 := Tryz.isAgg235
 z229 := Tryz.sizeOf235
 v229 := Tryz.zeroValue235 }
end Go.Proofs
namespace Go.Proofs.YtbccfiillleimaaGreat
set_option linter.unusedSimpArgs false
set_option linter.unusedVariables false
set_option linter.unusedSectionVars false
set_option maxRecDepth 4000
open Go.RowKit
theorem Tm.wt_args {a : Tm} {n : Nat} (h : a.wt ≤ n) : a.args.length ≤ n ∧ ∀ x ∈ a.args, x.wt ≤ n := by
 have e := Tm.wt_eq a
 refine ⟨by omega, fun x hx => ?_⟩
 have := mem_sum Tm.wt a.args x hx
 omega
theorem Fm.wt_parts {f : Fm} {n : Nat} (h : f.wt ≤ n) : f.atom.wt ≤ n ∧ f.parts.length ≤ n ∧ ∀ x ∈ f.parts, x.wt ≤ n := by
 have e := Fm.wt_eq f
 refine ⟨by omega, by omega, fun x hx => ?_⟩
 have := mem_sum Fm.wt f.parts x hx
 omega
set_option maxRecDepth 10000 in
theorem copyTerms_of (xs : List Tm) (H : ∀ x ∈ xs, FC Tryz.prog 152 [tmD x] [tmD x]) (hs : xs.length ≤ 1048576) :
  FC Tryz.prog 173 [.one (tmS xs)] [.one (tmS xs)] := by
 by_cases h0 : xs = []
 ·subst h0
  refine FC_of Tryz.call173 Tryz.func173 rfl (by kernel_rfl) (by simp only [rd, List.map_cons, List.map_nil, List.length_cons, List.length_nil, Tryz.ntmps173]; omega) ?_
  simp -implicitDefEqProofs only [go_sem, Tryz.results173]
 ·have hp : ((xs.length : Int) == 0) = false := by
   have : 0 < xs.length := List.length_pos_iff.2 h0
   simp; omega
  refine FC_of Tryz.call173 Tryz.func173 rfl (by kernel_rfl) (by simp only [rd, List.map_cons, List.map_nil, List.length_cons, List.length_nil, Tryz.ntmps173]; omega) ?_
  simp -implicitDefEqProofs only [go_sem, Tryz.results173, hp]
  refine makeD (by simp -implicitDefEqProofs only [go_sem]; omega) ?_
  simp -implicitDefEqProofs only [go_sem]
  refine loop_rule (fun k : Nat => hd [(12, vT (tmS xs)), (13, vI xs.length), (3, .one (.ow 352 0)), (14, vI k)] [] [(352, ⟨true, 2, (xs.take k).map tmC ++ List.replicate (xs.length - k) [T.str [], T.sl 2 []], 0, true⟩)]) (fun k => k ≤ xs.length) (fun k => xs.length - k) 0 (weak_hd ?_) ?_ ?_
  ·simp -implicitDefEqProofs only [go_sem]
   simp
  ·simp
  ·intro k hk
   by_cases hlt : k < xs.length
   ·have hlen : ((xs.take k).map tmC ++ List.replicate (xs.length - k) [T.str [], T.sl 2 []]).length = xs.length := by simp; omega
    have hlt2 : k < k + (xs.length - k) := by omega
    simp -implicitDefEqProofs only [go_sem, List.length_map, getD_at, hlt, tmC_eq]
    refine callF (H xs[k] (List.getElem_mem hlt)) (by simp -implicitDefEqProofs only [go_sem, tmC_eq, hlen, hlt, List.length_append, List.length_map, List.length_take, List.length_replicate, Nat.min_eq_left hk, hlt2]) ?_
    simp -implicitDefEqProofs only [go_sem, tmC_eq, hlen, hlt, List.length_append, List.length_map, List.length_take, List.length_replicate, Nat.min_eq_left hk, hlt2]
    refine storeD (by simp -implicitDefEqProofs only [go_sem]; simp) ?_
    simp -implicitDefEqProofs only [go_sem]
    rw [wrap_s (by omega)]
    refine ⟨k + 1, by omega, by omega, weak_hd ?_⟩
    simp -implicitDefEqProofs only [go_sem]
    have hf := fill_next ((xs.take k).map tmC) xs.length k [T.str [], T.sl 2 []] (tmC xs[k]) (by simp; omega) hlt (by simp [tmC_eq])
    simp only [tmC_eq] at hf
    rw [hf, List.take_succ_eq_append_getElem hlt, List.map_append, List.map_singleton]
    simp only [tmC_eq]
   ·simp -implicitDefEqProofs only [go_sem, List.length_map, hlt]
    simp [List.take_of_length_le (show xs.length ≤ k by omega), show xs.length - k = 0 by omega]
theorem copyTerm_of (a : Tm) (H : FC Tryz.prog 173 [.one (tmS a.args)] [.one (tmS a.args)]) : FC Tryz.prog 152 [tmD a] [tmD a] := by
 simp only [tmD, tmC_eq a]
 refine FC_of Tryz.call152 Tryz.func152 rfl (by kernel_rfl) (by simp only [rd, List.map_cons, List.map_nil, List.length_cons, List.length_nil, Tryz.ntmps152]; omega) ?_
 simp -implicitDefEqProofs only [go_sem, Tryz.results152]
 refine drawn (by kernel_rfl) ?_
 simp -implicitDefEqProofs only [go_sem]
 refine dCallF (H) (by simp -implicitDefEqProofs only [go_sem]) ?_
 simp -implicitDefEqProofs only [go_sem]
 kernel_rfl
theorem l2Own_of (a : Tm) (H : ∀ x ∈ a.args, FC Tryz.prog 155 [tmD x] [tmD x]) (hs : a.args.length ≤ 1048576) : FC Tryz.prog 155 [tmD a] [tmD a] := by
 simp only [tmD, tmC_eq a]
 refine FC_of Tryz.call155 Tryz.func155 rfl (by kernel_rfl) (by simp only [rd, List.map_cons, List.map_nil, List.length_cons, List.length_nil, Tryz.ntmps155]; omega) ?_
 simp -implicitDefEqProofs only [go_sem, Tryz.results155]
 refine loop_rule (fun k : Nat => hd [(1, .one (.bx 1 0)), (2, .one (.bx 2 0)), (3, .one (.bx 3 0)), (4, vI k)] [(1, [.t (.str a.name), .t (tmS a.args)]), (2, [.t (.str []), .nl 2]), (3, [.t (.str a.name), .ow 3000 0])] [(3000, ⟨true, 2, (a.args.take k).map tmC, 0, true⟩)]) (fun k => k ≤ a.args.length) (fun k => a.args.length - k) 0 (weak_hd ?_) ?_ ?_
 ·simp -implicitDefEqProofs only [go_sem]
 ·simp
 ·intro k hk
  by_cases hlt : k < a.args.length
  ·simp -implicitDefEqProofs only [go_sem, hlt]
   refine drawn (by kernel_rfl) ?_
   have hmin : min k a.args.length ≤ 4294967295 := by omega
   simp -implicitDefEqProofs only [go_sem, getD_at, hlt, tmC_eq]
   refine dCallF (H a.args[k] (List.getElem_mem hlt)) (by simp -implicitDefEqProofs only [go_sem, tmC_eq]) ?_
   simp -implicitDefEqProofs only [go_sem, tmC_eq]
   refine dBuildDc (by simp -implicitDefEqProofs only [go_sem]) ?_
   simp -implicitDefEqProofs only [go_sem]
   refine dApD true (by simp -implicitDefEqProofs only [go_sem, ne_eq, List.length_map, List.length_take, hmin]) ?_
   simp -implicitDefEqProofs only [go_sem, ne_eq, List.length_map, List.length_take, hmin]
   refine ⟨by kernel_rfl, k + 1, hlt, by omega, weak_hd ?_⟩
   simp -implicitDefEqProofs only [go_sem]
   rw [wrap_s (by omega), List.take_succ_eq_append_getElem hlt, List.map_append, List.map_singleton]
   simp only [tmC_eq]
   trivial
  ·have ht : a.args.take k = a.args := List.take_of_length_le (by omega)
   simp -implicitDefEqProofs only [go_sem, hlt, ht]
theorem copyTerm_c : ∀ a : Tm, a.wt ≤ 1048576 → FC Tryz.prog 152 [tmD a] [tmD a] :=
 tm_ind fun n xs ih hs => by
  obtain ⟨h1, h2⟩ := Tm.wt_args hs
  exact copyTerm_of (.mk n xs) (copyTerms_of xs (fun x hx => ih x hx (h2 x hx)) h1)
theorem l2Own_c : ∀ a : Tm, a.wt ≤ 1048576 → FC Tryz.prog 155 [tmD a] [tmD a] :=
 tm_ind fun n xs ih hs => by
  obtain ⟨h1, h2⟩ := Tm.wt_args hs
  exact l2Own_of (.mk n xs) (fun x hx => ih x hx (h2 x hx)) h1
set_option maxHeartbeats 1000000 in
theorem l8Own_of (a : Fm) (H : ∀ x ∈ a.parts, FC Tryz.prog 140 [fmD x] [fmD x]) (h0 : a.atom.wt ≤ 1048576) (hs : a.parts.length ≤ 1048576) : FC Tryz.prog 140 [fmD a] [fmD a] := by
 simp only [fmD, fmC_eq a]
 refine FC_of Tryz.call140 Tryz.func140 rfl (by kernel_rfl) (by simp only [rd, List.map_cons, List.map_nil, List.length_cons, List.length_nil, Tryz.ntmps140]; omega) ?_
 simp -implicitDefEqProofs only [go_sem, Tryz.results140]
 refine drawn (by kernel_rfl) ?_
 simp -implicitDefEqProofs only [go_sem]
 refine dCallF (l2Own_c a.atom h0) (by simp -implicitDefEqProofs only [go_sem, tmC_eq]) ?_
 simp -implicitDefEqProofs only [go_sem, tmC_eq]
 refine ⟨by kernel_rfl, ?_⟩
 refine loop_rule (fun k : Nat => hd [(1, .one (.bx 1 0)), (2, .one (.bx 2 0)), (3, .one (.bx 3 0)), (4, vI k)] [(1, [.t (.int .i64 a.op), .t (.str a.atom.name), .t (tmS a.atom.args), .t (.str a.var), .t (fmS a.parts)]), (2, [.t (.int .i64 0), .t (.str []), .nl 2, .t (.str []), .nl 5]), (3, [.t (.int .i64 a.op), .t (.str a.atom.name), .ow 289 0, .t (.str a.var), .ow 3000 0])]
  [(289, ⟨true, 2, a.atom.args.map tmC, 0, true⟩), (3000, ⟨true, 5, (a.parts.take k).map fmC, 0, true⟩)]) (fun k => k ≤ a.parts.length) (fun k => a.parts.length - k) 0 (weak_hd ?_) ?_ ?_
 ·simp -implicitDefEqProofs only [go_sem]
 ·simp
 ·intro k hk
  by_cases hlt : k < a.parts.length
  ·simp -implicitDefEqProofs only [go_sem, hlt]
   refine drawn (by kernel_rfl) ?_
   have hmin : min k a.parts.length ≤ 4294967295 := by omega
   simp -implicitDefEqProofs only [go_sem, getD_at, hlt, fmC_eq]
   refine dCallF (H a.parts[k] (List.getElem_mem hlt)) (by simp -implicitDefEqProofs only [go_sem, fmC_eq]) ?_
   simp -implicitDefEqProofs only [go_sem, fmC_eq]
   refine dBuildDc (by simp -implicitDefEqProofs only [go_sem]) ?_
   simp -implicitDefEqProofs only [go_sem]
   refine dApD true (by simp -implicitDefEqProofs only [go_sem, ne_eq, List.length_map, List.length_take, hmin]) ?_
   simp -implicitDefEqProofs only [go_sem, ne_eq, List.length_map, List.length_take, hmin]
   refine ⟨by kernel_rfl, k + 1, hlt, by omega, weak_hd ?_⟩
   simp -implicitDefEqProofs only [go_sem]
   rw [wrap_s (by omega), List.take_succ_eq_append_getElem hlt, List.map_append, List.map_singleton]
   simp only [fmC_eq]
   trivial
  ·have ht : a.parts.take k = a.parts := List.take_of_length_le (by omega)
   simp -implicitDefEqProofs only [go_sem, hlt, ht]
theorem l8Own_c : ∀ a : Fm, a.wt ≤ 1048576 → FC Tryz.prog 140 [fmD a] [fmD a] :=
 fm_ind fun o t v ps ih hs => by
  obtain ⟨h1, h2, h3⟩ := Fm.wt_parts hs
  exact l8Own_of (.mk o t v ps) (fun x hx => ih x hx (h3 x hx)) h1 h2
set_option maxHeartbeats 1000000 in
theorem mapParts_of (a : Fm) (g : FuncId) (φ : Fm → Fm) (H : ∀ x ∈ a.parts, FC Tryz.prog g [fmD x] [fmD (φ x)]) (h0 : a.atom.wt ≤ 1048576) (hs : a.parts.length ≤ 1048576) : FC Tryz.prog 127 [fmD a, .one (.fn g [])] [fmD (.mk a.op a.atom a.var (a.parts.map φ))] := by
 simp only [fmD, fmC_eq a, fmC_mk]
 refine FC_of Tryz.call127 Tryz.func127 rfl (by kernel_rfl) (by simp only [rd, List.map_cons, List.map_nil, List.length_cons, List.length_nil, Tryz.ntmps127]; omega) ?_
 simp -implicitDefEqProofs only [go_sem, Tryz.results127]
 refine drawn (by kernel_rfl) ?_
 simp -implicitDefEqProofs only [go_sem]
 refine dCallF (copyTerm_c a.atom h0) (by simp -implicitDefEqProofs only [go_sem, tmC_eq]) ?_
 simp -implicitDefEqProofs only [go_sem, tmC_eq]
 refine ⟨by kernel_rfl, ?_⟩
 refine loop_rule (fun k : Nat => hd [(1, .one (.t (.fn g []))), (4, .one (.bx 4 0)), (5, .one (.bx 5 0)), (17, vT (fmS a.parts)), (18, vI a.parts.length), (19, vI k)] [(4, [.t (.int .i64 0), .t (.str []), .nl 2, .t (.str []), .nl 5]), (5, [.t (.int .i64 a.op), .t (.str a.atom.name), .ow 385 0, .t (.str a.var), .ow 3000 0])]
  [(385, ⟨true, 2, a.atom.args.map tmC, 0, true⟩), (3000, ⟨true, 5, (a.parts.take k).map fun x => fmC (φ x), 0, true⟩)]) (fun k => k ≤ a.parts.length) (fun k => a.parts.length - k) 0 (weak_hd ?_) ?_ ?_
 ·simp -implicitDefEqProofs only [go_sem]
 ·simp
 ·intro k hk
  by_cases hlt : k < a.parts.length
  ·have hmin : min k a.parts.length ≤ 4294967295 := by omega
   simp -implicitDefEqProofs only [go_sem, getD_at, hlt, fmC_eq a.parts[k]]
   refine drawn (by kernel_rfl) ?_
   simp -implicitDefEqProofs only [go_sem]
   refine dCallF (H a.parts[k] (List.getElem_mem hlt)) (by simp -implicitDefEqProofs only [go_sem, fmC_eq]) ?_
   simp -implicitDefEqProofs only [go_sem, fmC_eq]
   refine dBuildDc (by simp -implicitDefEqProofs only [go_sem]) ?_
   simp -implicitDefEqProofs only [go_sem]
   refine dApD true (by simp -implicitDefEqProofs only [go_sem, ne_eq, List.length_map, List.length_take, hmin]) ?_
   simp -implicitDefEqProofs only [go_sem, ne_eq, List.length_map, List.length_take, hmin]
   refine ⟨by kernel_rfl, k + 1, hlt, by omega, weak_hd ?_⟩
   simp -implicitDefEqProofs only [go_sem]
   rw [wrap_s (by omega), List.take_succ_eq_append_getElem hlt, List.map_append, List.map_singleton]
   simp only [fmC_eq]
   trivial
  ·have ht : a.parts.take k = a.parts := List.take_of_length_le (by omega)
   simp -implicitDefEqProofs only [go_sem, hlt, ht]
   rfl
set_option maxRecDepth 10000 in
theorem copyFormula_c : ∀ a : Fm, a.wt ≤ 1048576 → FC Tryz.prog 166 [fmD a] [fmD a] :=
 fm_ind fun o t v ps ih hs => by
  obtain ⟨h1, h2, h3⟩ := Fm.wt_parts hs
  have H := mapParts_of (.mk o t v ps) 166 (fun x => x) (fun x hx => ih x hx (h3 x hx)) h1 h2
  simp only [Fm.op, Fm.atom, Fm.var, Fm.parts, List.map_id'] at H
  simp only [fmD, fmC_mk] at H ⊢
  refine FC_of Tryz.call166 Tryz.func166 rfl (by kernel_rfl) (by simp only [rd, List.map_cons, List.map_nil, List.length_cons, List.length_nil, Tryz.ntmps166]; omega) ?_
  simp -implicitDefEqProofs only [go_sem, Tryz.results166]
  refine callF (H) (by simp -implicitDefEqProofs only [go_sem]) ?_
  simp -implicitDefEqProofs only [go_sem]
  trace_state
end Go.Proofs.YtbccfiillleimaaGreat
namespace Go.Proofs.YtbccfiillleimaaGreat
set_option linter.unusedSimpArgs false
set_option linter.unusedVariables false
set_option linter.unusedSectionVars false
set_option maxRecDepth 4000
open Go.RowKit
theorem sortStr_c (ss : List Str) (hl : ss.length ≤ 1099511627776) : IC Tryz.prog 118 [] (.one (strS ss)) [] (.one (strS (sortS ss))) [] :=
 sort_IC Tryz.call118 (fun blk off cap ss w h1 h2 h3 => Any.slices_Sort_string Tryz.lays190 blk off cap ss w h1 h2 h3) (fun p cap w => Any.slices_Sort_string_none Tryz.lays190 p cap w) ss (by omega)
theorem info_at {P : Program} {t : TypeId} {n b : Nat} {z : List C} (h1 : sizeT P t = some n) (h2 : bytesT P t = some b) (h3 : zeroT P t = some z) (h4 : z.length = n) : ∃ i0 zv, P.info? t = some i0 ∧ i0.zero = some zv ∧ zv.cells.size = n ∧ i0.size = n ∧ i0.bytes = b := by
 unfold sizeT at h1
 unfold bytesT at h2
 unfold zeroT at h3
 cases hi : P.info? t with
 | none => rw [hi] at h1; cases h1
 | some i =>
  rw [hi] at h1 h2 h3
  simp only [Option.map_some, Option.some.injEq] at h1 h2
  simp only [Option.bind_some] at h3
  cases hz : i.zero with
  | none => rw [hz] at h3; cases h3
  | some zv =>
   rw [hz] at h3
   simp only [Option.map_some, Option.some.injEq] at h3
   refine ⟨i, zv, rfl, hz, ?_, h1, h2⟩
   rw [← h4, ← h3]; simp
set_option maxHeartbeats 1000000 in
theorem cloneStr_k : CloneOf Tryz.prog 120 1 16 := by
 have t22 := Tryz.underlying70
 have q22 : ∀ (w : World) (a : Option Addr) (n c n' c' : Nat), (binOp .eql 70 (.slice a n c) (.slice none n' c')).run Tryz.prog w = .ok (.bool a.isNone) w := fun w a n c n' c' => Lib.run_eql_slice_nil w _ _ a n c n' c' t22
 have u22 : ∀ w, Sem.run Tryz.prog (underlying 70) w = .ok (TypeDesc.slice 9) w := run_underlying t22
 refine ⟨Tryz.call120, fun ad n c news w hl hn hbig hc h1 => ?_, fun n c w => ?_⟩
 ·have A : Aside (∀ j u, news[j]? = some u → w.cell? (ad.add j) = some u) := hc
  clear hc
  obtain ⟨i0, z, hi, hz0, hzs, hz1, hz2⟩ := info_at (P := Tryz.prog) (t := 9) (n := 1) (b := 16) (z := [.t (.str [])]) (by kernel_rfl) (by kernel_rfl) (by kernel_rfl) rfl
  go_enter Tryz.func120, Tryz.ntmps120
  go_wp2_with (at_builtin; refine wpList_append_own _ rfl _ _ 70 rfl w.heap.size 9 i0 z 1 16 t22 hi hz0 hz1 hz2 hzs (by decide) _ _ _ rfl (World.ownsRow_made w #[] 0 (Nat.le_refl _) (Nat.zero_le _) (by simp)) ad n c news rfl ?qc1 ?qc2 ?qc3 ?qc4 ?qc5 ?qc6 ?_)
  case qc1 => exact hl
  case qc2 =>
   intro j u hj
   exact Lib.cell?_alloc_some _ (A.out j u hj)
  case qc3 => exact h1
  case qc4 => rw [Nat.zero_add]; exact hn
  case qc5 => rw [Nat.zero_add]; exact hbig
  case qc6 => simp
  intro v' w1 hown hgrow hnil
  go_wp2
  go_ret
  refine ⟨_, v', rfl, by simpa using hown, hnil, ?_⟩
  exact ((Below.refl _ w).alloc (Nat.le_refl _) _).grown hgrow (by simp) (by intro k hk; simp [Value.ownBlock] at hk; omega)
 ·go_enter Tryz.func120, Tryz.ntmps120
  go_wp2
  go_ret
  exact ⟨rfl, rfl⟩
theorem strs_flatC (ss : List Str) : ∀ c ∈ (ss.map fun s => [T.str s]).flatten, c.flat = true := fun c hc => by
 rw [strs_flat] at hc
 obtain ⟨s, _, rfl⟩ := List.mem_map.1 hc
 rfl
theorem cloneStr_c (ss : List Str) (hs : ss.length ≤ 1099511627776) : FC Tryz.prog 120 [.one (strS ss)] [.one (strS ss)] :=
 clone_FC cloneStr_k _ (by simp; omega) (strs_flatC ss)
theorem l2In_c (xs : List Str) (s : Str) : FC Tryz.prog 99 [.one (strS xs), sD s] [bD (xs.contains s)] := by
 refine FC_wf (fun hw => ?_) Tryz.call99
 have hl : xs.length ≤ 9223372036854775807 := by simpa [wfDs, wfT] using hw.1.1
 refine FC_of Tryz.call99 Tryz.func99 rfl (by kernel_rfl) (by simp only [rd, List.map_cons, List.map_nil, List.length_cons, List.length_nil, Tryz.ntmps99]; omega) ?_
 simp -implicitDefEqProofs only [go_sem, Tryz.results99]
 refine loop_rule (fun k : Nat => hd [(0, vT (strS xs)), (1, vT (.str s)), (5, vI k)] [] []) (fun k => k ≤ xs.length ∧ s ∉ xs.take k) (fun k => xs.length - k) 0 (weak_hd ?_) ?_ ?_
 ·simp -implicitDefEqProofs only [go_sem]
 ·simp
 ·intro k ⟨hk, hr⟩
  by_cases hlt : k < xs.length
  ·simp -implicitDefEqProofs only [go_sem, getD_at, hlt]
   refine ⟨fun h => ?_, fun h => ?_⟩
   ·have e : xs[k] = s := by simpa using h
    rw [List.contains_iff_mem.2 (e ▸ List.getElem_mem hlt)]
   ·have e : xs[k] ≠ s := by simpa using h
    exact ⟨k + 1, ⟨hlt, not_take_succ hlt hr e⟩, by omega, weak_hd (by simp -implicitDefEqProofs only [go_sem]; rw [wrap_s (by omega)])⟩
  ·simp -implicitDefEqProofs only [go_sem, hlt]
   rw [List.take_of_length_le (by omega)] at hr
   simpa using hr
theorem takeW_at {α : Type} {p : α → Bool} : ∀ {l : List α} {k : Nat}, k ≤ l.length → (∀ x ∈ l.take k, p x = true) → (∀ h : k < l.length, p l[k] = false) → l.takeWhile p = l.take k ∧ l.dropWhile p = l.drop k
 | [], k, hk, _, _ => by simp
 | a :: l, 0, hk, _, h2 => by have := h2 (by simp); simp only [List.getElem_cons_zero] at this; simp [this]
 | a :: l, k + 1, hk, h1, h2 => by
  have ha := h1 a (by simp)
  obtain ⟨e1, e2⟩ := takeW_at (l := l) (k := k) (by simpa using hk) (fun x hx => h1 x (by simp [hx])) (fun h => h2 (by simpa using h))
  simp [ha, e1, e2]
theorem putS_at {l : List Str} {s : Str} {k : Nat} (hk : k ≤ l.length) (h1 : ∀ x ∈ l.take k, Op.bytesLess x s = true) (h2 : ∀ h : k < l.length, Op.bytesLess l[k] s = false) : putS l s = if (l.drop k).head? = some s then l else l.take k ++ [s] ++ l.drop k := by
 obtain ⟨e1, e2⟩ := takeW_at (p := fun x => Op.bytesLess x s) hk h1 h2
 unfold putS
 rw [e1, e2]
theorem flR_of {rows : List (List T)} (h : ∀ r ∈ rows, r.all T.flat = true) : flR rows = true := by
 induction rows with
 | nil => rfl
 | cons r rs ih => unfold flR; rw [h r (by simp), ih fun r hr => h r (by simp [hr])]; rfl
theorem flR_strs (l : List Str) : flR (l.map fun s => [T.str s]) = true := flR_of fun r hr => by obtain ⟨s, _, rfl⟩ := List.mem_map.1 hr; rfl
theorem flR_tstrs (k : Nat) (l : List Str) : flR ((l.map fun s => [T.str s]).take k) = true := by rw [← List.map_take]; exact flR_strs _
theorem flR_dstrs (k : Nat) (l : List Str) : flR ((l.map fun s => [T.str s]).drop k) = true := by rw [← List.map_drop]; exact flR_strs _
theorem tk_map {α β : Type} (f : α → β) (l : List α) : (l.map f).take l.length = l.map f := List.take_of_length_le (by simp)
theorem l2Put_c (l : List Str) (s : Str) (hl : l.length ≤ 2147483648) : GC Tryz.prog 206 [(true, .one (strS l)), (false, sD s)] [.one (strS (putS l s))] := by
 refine GC_of Tryz.call206 Tryz.func206 rfl (by kernel_rfl) (by simp only [List.length_cons, List.length_nil, Tryz.ntmps206]; omega) (by simp [smallG, T.isPin]) ?_
 simp -implicitDefEqProofs only [go_sem, Tryz.results206]
 refine loop_rule (fun k : Nat => hd [(0, .one (.ow 0 0)), (1, vT (.str s)), (5, vI k)] [] [(0, ⟨true, 1, l.map fun s => [.str s], 0, true⟩)]) (fun k => k ≤ l.length ∧ ∀ x ∈ l.take k, Op.bytesLess x s = true) (fun k => l.length - k) 0 (weak_hd ?_) ?_ ?_
 ·simp -implicitDefEqProofs only [go_sem]
 ·simp
 ·intro k ⟨hk, hr⟩
  have hm1 : min k l.length ≤ 4294967296 := by omega
  have hm2 : min k l.length ≤ 4294967295 := by omega
  have hm3 : min k l.length + 1 + (l.length - k) ≤ 4294967296 := by omega
  by_cases hlt : k < l.length
  ·have hnx : ∀ {b}, Op.bytesLess l[k] s = b → b = true → ∀ x ∈ l.take (k + 1), Op.bytesLess x s = true := fun {b} e hb x hx => by
    rw [List.take_succ_eq_append_getElem hlt] at hx
    rcases List.mem_append.1 hx with hx | hx
    ·exact hr x hx
    ·rw [List.mem_singleton.1 hx, e, hb]
   simp -implicitDefEqProofs only [go_sem, getD_at, hlt]
   refine ⟨fun h => ⟨k + 1, ⟨hlt, hnx rfl h⟩, by omega, weak_hd (by simp -implicitDefEqProofs only [go_sem]; rw [wrap_s (by omega)])⟩, fun h => ?_⟩
   have hp := putS_at hk hr (fun _ => h)
   have hh : (l.drop k).head? = some l[k] := by rw [List.head?_drop, List.getElem?_eq_getElem hlt]
   refine ⟨fun h2 => ?_, fun h2 => ?_⟩
   ·rw [hp, if_pos (by rw [hh]; simpa using h2)]
   ·rw [if_neg (by rw [hh]; simpa using h2)] at hp
    refine frzD 0 ?_
    simp -implicitDefEqProofs only [go_sem]
    refine drawn (by kernel_rfl) ?_
    simp -implicitDefEqProofs only [go_sem, hk]
    refine dBuildDc (by simp -implicitDefEqProofs only [go_sem, hk]) ?_
    simp -implicitDefEqProofs only [go_sem, hk]
    refine dApD true (by simp -implicitDefEqProofs only [go_sem, hk, ne_eq, Nat.zero_add, hm1, hm2, hm3, flR_tstrs, flR_dstrs, tk_map, List.length_drop, List.length_take, List.length_append, List.length_map]) ?_
    simp -implicitDefEqProofs only [go_sem, hk, ne_eq, Nat.zero_add, hm1, hm2, hm3, flR_tstrs, flR_dstrs, tk_map, List.length_drop, List.length_take, List.length_append, List.length_map]
    refine dBuildDc (by simp -implicitDefEqProofs only [go_sem, hk]) ?_
    simp -implicitDefEqProofs only [go_sem, hk]
    refine dApD true (by simp -implicitDefEqProofs only [go_sem, hk, ne_eq, Nat.zero_add, hm1, hm2, hm3, flR_tstrs, flR_dstrs, tk_map, List.length_drop, List.length_take, List.length_append, List.length_map]) ?_
    simp -implicitDefEqProofs only [go_sem, hk, ne_eq, Nat.zero_add, hm1, hm2, hm3, flR_tstrs, flR_dstrs, tk_map, List.length_drop, List.length_take, List.length_append, List.length_map]
    refine dApD true (by simp -implicitDefEqProofs only [go_sem, hk, ne_eq, Nat.zero_add, hm1, hm2, hm3, flR_tstrs, flR_dstrs, tk_map, List.length_drop, List.length_take, List.length_append, List.length_map]) ?_
    simp -implicitDefEqProofs only [go_sem, hk, ne_eq, Nat.zero_add, hm1, hm2, hm3, flR_tstrs, flR_dstrs, tk_map, List.length_drop, List.length_take, List.length_append, List.length_map]
    refine ⟨by kernel_rfl, ?_⟩
    rw [hp]; simp
  ·simp -implicitDefEqProofs only [go_sem, hlt]
   have hp := putS_at hk hr (fun h => absurd h hlt)
   rw [if_neg (by rw [List.drop_of_length_le (by omega)]; simp)] at hp
   refine frzD 0 ?_
   simp -implicitDefEqProofs only [go_sem]
   refine drawn (by kernel_rfl) ?_
   simp -implicitDefEqProofs only [go_sem, hk]
   refine dBuildDc (by simp -implicitDefEqProofs only [go_sem, hk]) ?_
   simp -implicitDefEqProofs only [go_sem, hk]
   refine dApD true (by simp -implicitDefEqProofs only [go_sem, hk, ne_eq, Nat.zero_add, hm1, hm2, hm3, flR_tstrs, flR_dstrs, tk_map, List.length_drop, List.length_take, List.length_append, List.length_map]) ?_
   simp -implicitDefEqProofs only [go_sem, hk, ne_eq, Nat.zero_add, hm1, hm2, hm3, flR_tstrs, flR_dstrs, tk_map, List.length_drop, List.length_take, List.length_append, List.length_map]
   refine dBuildDc (by simp -implicitDefEqProofs only [go_sem, hk]) ?_
   simp -implicitDefEqProofs only [go_sem, hk]
   refine dApD true (by simp -implicitDefEqProofs only [go_sem, hk, ne_eq, Nat.zero_add, hm1, hm2, hm3, flR_tstrs, flR_dstrs, tk_map, List.length_drop, List.length_take, List.length_append, List.length_map]) ?_
   simp -implicitDefEqProofs only [go_sem, hk, ne_eq, Nat.zero_add, hm1, hm2, hm3, flR_tstrs, flR_dstrs, tk_map, List.length_drop, List.length_take, List.length_append, List.length_map]
   refine dApD true (by simp -implicitDefEqProofs only [go_sem, hk, ne_eq, Nat.zero_add, hm1, hm2, hm3, flR_tstrs, flR_dstrs, tk_map, List.length_drop, List.length_take, List.length_append, List.length_map]) ?_
   simp -implicitDefEqProofs only [go_sem, hk, ne_eq, Nat.zero_add, hm1, hm2, hm3, flR_tstrs, flR_dstrs, tk_map, List.length_drop, List.length_take, List.length_append, List.length_map]
   refine ⟨by kernel_rfl, ?_⟩
   rw [hp]; simp
end Go.Proofs.YtbccfiillleimaaGreat
namespace Go.Proofs.YtbccfiillleimaaGreat
set_option linter.unusedSimpArgs false
set_option linter.unusedVariables false
set_option linter.unusedSectionVars false
set_option maxRecDepth 4000
open Go.RowKit
theorem isUp_of {b : UInt8} (h1 : decide ((b.toNat : Int) < 65) = false) (h2 : decide ((90 : Int) < b.toNat) = false) : isUp b = true := by
 simp [isUp] at *; omega
theorem isUp_no1 {b : UInt8} (h1 : decide ((b.toNat : Int) < 65) = true) : isUp b = false := by
 simp [isUp] at *; omega
theorem isUp_no2 {b : UInt8} (h2 : decide ((90 : Int) < b.toNat) = true) : isUp b = false := by
 simp [isUp] at *; omega
theorem isLow_of {b : UInt8} (h1 : decide ((b.toNat : Int) < 97) = false) (h2 : decide ((122 : Int) < b.toNat) = false) : isLow b = true := by
 simp [isLow] at *; omega
theorem isLow_no1 {b : UInt8} (h1 : decide ((b.toNat : Int) < 97) = true) : isLow b = false := by
 simp [isLow] at *; omega
theorem isLow_no2 {b : UInt8} (h2 : decide ((122 : Int) < b.toNat) = true) : isLow b = false := by
 simp [isLow] at *; omega
theorem okAll_eq {s : Str} (h : 0 < s.length) : okAll s = (isUp (s.getD 0 0) && (s.drop 1).all isSm) := by
 cases s
 ·exact absurd h (by simp)
 ·rfl
theorem symAll_eq {s : Str} (h : 0 < s.length) : symAll s = (isLow (s.getD 0 0) && (s.drop 1).all isNx) := by
 cases s
 ·exact absurd h (by simp)
 ·rfl
theorem l2Var_c (s : Str) : FC Tryz.prog 198 [sD s] [bD (varOk s)] := by
 refine FC_wf (fun hw => ?_) Tryz.call198
 have hl : s.length ≤ 9223372036854775807 := by simpa [wfDs, wfT] using hw.1
 refine FC_of Tryz.call198 Tryz.func198 rfl (by kernel_rfl) (by simp only [rd, List.map_cons, List.map_nil, List.length_cons, List.length_nil, Tryz.ntmps198]; omega) ?_
 simp -implicitDefEqProofs only [go_sem, Tryz.results198]
 refine callF (l1In_c s.length 1 4) (by simp -implicitDefEqProofs only [go_sem]) ?_
 simp -implicitDefEqProofs only [go_sem]
 by_cases hb : inB s.length 1 4 = true
 ·have hp : 0 < s.length := by simp [inB] at hb; omega
  have hp' : (0 : Int) < s.length := by omega
  have he := okAll_eq hp
  refine ⟨fun h => ⟨hp', fun h1 => ⟨hp', fun h2 => ?_, fun h2 => ?_⟩, fun h1 => ?_⟩, fun h => by simp [hb] at h⟩
  ·rw [varOk, he, isUp_no2 h2]; rfl
  ·rw [isUp_of h1 h2, Bool.true_and] at he
   refine loop_rule (fun k : Nat => hd [(0, vT (.str s)), (3, vI k)] [] []) (fun k => k ≤ s.length ∧ okAll s = (s.drop k).all isSm) (fun k => s.length - k) 1 (weak_hd ?_) ?_ ?_
   ·simp -implicitDefEqProofs only [go_sem]
   ·exact ⟨hp, he⟩
   ·intro k ⟨hk, hr⟩
    by_cases hlt : k < s.length
    ·have hg : s.getD k 0 = s[k] := by simp [List.getD, hlt]
     rw [List.drop_eq_getElem_cons hlt, List.all_cons] at hr
     simp -implicitDefEqProofs only [go_sem, hlt]
     simp only [hg]
     refine callF (l2Small_c s[k]) (by simp -implicitDefEqProofs only [go_sem]) ?_
     simp -implicitDefEqProofs only [go_sem]
     refine ⟨fun h => ?_, fun h => ⟨k + 1, ⟨hlt, ?_⟩, by omega, weak_hd (by simp -implicitDefEqProofs only [go_sem]; rw [wrap_s (by omega)])⟩⟩
     ·have : isSm s[k] = false := by simpa using h
      rw [varOk, hr, this]; rfl
     ·have : isSm s[k] = true := by simpa using h
      rw [hr, this]; rfl
    ·simp -implicitDefEqProofs only [go_sem, hlt]
     rw [varOk, hr, List.drop_of_length_le (by omega), hb]; rfl
  ·rw [varOk, he, isUp_no1 h1]; rfl
 ·have hb' : inB s.length 1 4 = false := by simpa using hb
  refine ⟨fun h => by simp [hb'] at h, fun h => ?_⟩
  rw [varOk, hb', Bool.and_false]
set_option maxHeartbeats 1000000 in
theorem l2Symbol_c (s : Str) : FC Tryz.prog 217 [sD s] [bD (symOk s)] := by
 refine FC_wf (fun hw => ?_) Tryz.call217
 have hl : s.length ≤ 9223372036854775807 := by simpa [wfDs, wfT] using hw.1
 refine FC_of Tryz.call217 Tryz.func217 rfl (by kernel_rfl) (by simp only [rd, List.map_cons, List.map_nil, List.length_cons, List.length_nil, Tryz.ntmps217]; omega) ?_
 simp -implicitDefEqProofs only [go_sem, Tryz.results217]
 refine callF (l1In_c s.length 1 6) (by simp -implicitDefEqProofs only [go_sem]) ?_
 simp -implicitDefEqProofs only [go_sem]
 by_cases hb : inB s.length 1 6 = true
 ·have hp : 0 < s.length := by simp [inB] at hb; omega
  have hp' : (0 : Int) < s.length := by omega
  have he := symAll_eq hp
  refine ⟨fun h => ⟨hp', fun h1 => ⟨hp', fun h2 => ?_, fun h2 => ?_⟩, fun h1 => ?_⟩, fun h => by simp [hb] at h⟩
  ·rw [symOk, he, isLow_no2 h2]; rfl
  ·rw [isLow_of h1 h2, Bool.true_and] at he
   have leaf : ∀ l, l ∈ resW → (s == l) = true → T.bool false = T.bool (symOk s) := fun l hl e => by
    have : resW.contains s = true := by rw [List.contains_iff_mem, beq_iff_eq.1 e]; exact hl
    rw [symOk, this, Bool.not_true, Bool.and_false]
   refine ⟨fun e => ⟨fun _ => leaf _ (by simp [resW]) e, fun e' => absurd (e.symm.trans e') (by simp)⟩, fun n1 => ?_⟩
   refine ⟨fun e => ⟨fun _ => leaf _ (by simp [resW]) e, fun e' => absurd (e.symm.trans e') (by simp)⟩, fun n2 => ?_⟩
   refine ⟨fun e => ⟨fun _ => leaf _ (by simp [resW]) e, fun e' => absurd (e.symm.trans e') (by simp)⟩, fun n3 => ?_⟩
   refine ⟨fun e => ⟨fun _ => leaf _ (by simp [resW]) e, fun e' => absurd (e.symm.trans e') (by simp)⟩, fun n4 => ?_⟩
   refine ⟨fun e => ⟨fun _ => leaf _ (by simp [resW]) e, fun e' => absurd (e.symm.trans e') (by simp)⟩, fun n5 => ?_⟩
   refine ⟨fun e => ⟨fun _ => leaf _ (by simp [resW]) e, fun e' => absurd (e.symm.trans e') (by simp)⟩, fun n6 => ?_⟩
   refine ⟨fun e => ⟨fun _ => leaf _ (by simp [resW]) e, fun e' => absurd (e.symm.trans e') (by simp)⟩, fun n7 => ?_⟩
   refine ⟨fun e => leaf _ (by simp [resW]) e, fun n8 => ?_⟩
   have hnc : resW.contains s = false := by
    simp only [beq_eq_false_iff_ne, ne_eq] at n1 n2 n3 n4 n5 n6 n7 n8
    rw [Bool.eq_false_iff, ne_eq, List.contains_iff_mem]
    simp only [resW, List.mem_cons, List.not_mem_nil, or_false, not_or]
    exact ⟨n1, n2, n3, n4, n5, n6, n7, n8⟩
   refine loop_rule (fun k : Nat => hd [(0, vT (.str s)), (3, vI k)] [] []) (fun k => k ≤ s.length ∧ symAll s = (s.drop k).all isNx) (fun k => s.length - k) 1 (weak_hd ?_) ?_ ?_
   ·simp -implicitDefEqProofs only [go_sem]
   ·exact ⟨hp, he⟩
   ·intro k ⟨hk, hr⟩
    by_cases hlt : k < s.length
    ·have hg : s.getD k 0 = s[k] := by simp [List.getD, hlt]
     rw [List.drop_eq_getElem_cons hlt, List.all_cons] at hr
     simp -implicitDefEqProofs only [go_sem, hlt]
     simp only [hg]
     refine callF (l2Small_c s[k]) (by simp -implicitDefEqProofs only [go_sem]) ?_
     simp -implicitDefEqProofs only [go_sem]
     simp only [hg]
     refine ⟨fun h => ⟨hlt, fun h' => ?_, fun h' => ⟨k + 1, ⟨hlt, ?_⟩, by omega, weak_hd (by simp -implicitDefEqProofs only [go_sem]; rw [wrap_s (by omega)])⟩⟩, fun h => ⟨k + 1, ⟨hlt, ?_⟩, by omega, weak_hd (by simp -implicitDefEqProofs only [go_sem]; rw [wrap_s (by omega)])⟩⟩
     ·have : isNx s[k] = false := by
       simp [isNx] at h ⊢
       refine ⟨h, fun e => ?_⟩
       rw [e] at h'
       simp at h'
      rw [symOk, hr, this]; rfl
     ·have : isNx s[k] = true := by
       have := u8_eq (b := s[k]) (n := 95) (by omega)
       simp [isNx] at h' ⊢
       right
       simpa [h'] using this
      rw [hr, this]; rfl
     ·have : isNx s[k] = true := by simp [isNx]; simp at h; simp [h]
      rw [hr, this]; rfl
    ·simp -implicitDefEqProofs only [go_sem, hlt]
     rw [symOk, hr, List.drop_of_length_le (by omega), hb, hnc]; rfl
  ·rw [symOk, he, isLow_no1 h1]; rfl
 ·have hb' : inB s.length 1 6 = false := by simpa using hb
  refine ⟨fun h => by simp [hb'] at h, fun h => ?_⟩
  rw [symOk, hb', Bool.and_false]; rfl
end Go.Proofs.YtbccfiillleimaaGreat
namespace Go.Proofs.YtbccfiillleimaaGreat
set_option linter.unusedSimpArgs false
set_option linter.unusedVariables false
set_option linter.unusedSectionVars false
set_option maxRecDepth 4000
open Go.RowKit
def Tm.nodes : Tm → Nat := Tm.fold fun _ _ rs => 1 + rs.sum
theorem Tm.nodes_eq (a : Tm) : a.nodes = 1 + (a.args.map Tm.nodes).sum := Tm.fold_eq _ a
def Tm.depth : Tm → Nat := Tm.fold fun _ _ rs => rs.foldl max 0 + 1
theorem Tm.depth_eq (a : Tm) : a.depth = (a.args.map Tm.depth).foldl max 0 + 1 := Tm.fold_eq _ a
theorem nodes_wt : ∀ a : Tm, a.nodes ≤ 1 + a.wt := by
 refine tm_ind fun n xs ih => ?_
 rw [Tm.nodes_eq, Tm.wt_eq]
 show 1 + (xs.map Tm.nodes).sum ≤ 1 + (n.length + xs.length + (xs.map Tm.wt).sum)
 have : (xs.map Tm.nodes).sum ≤ xs.length + (xs.map Tm.wt).sum := by
  clear n
  induction xs with
  | nil => simp
  | cons x xs ih2 =>
   have h1 := ih x (by simp)
   have h2 := ih2 fun y hy => ih y (by simp [hy])
   simp only [List.map_cons, List.sum_cons, List.length_cons]
   omega
 omega
theorem foldl_max_le {B : Nat} : ∀ (xs : List Nat) (m : Nat), m ≤ B → (∀ x ∈ xs, x ≤ B) → xs.foldl max m ≤ B
 | [], m, h, _ => h
 | x :: xs, m, h, h2 => foldl_max_le xs (max m x) (by have := h2 x (by simp); omega) fun y hy => h2 y (by simp [hy])
theorem depth_nodes : ∀ a : Tm, a.depth ≤ a.nodes := by
 refine tm_ind fun n xs ih => ?_
 rw [Tm.nodes_eq, Tm.depth_eq]
 show (xs.map Tm.depth).foldl max 0 + 1 ≤ 1 + (xs.map Tm.nodes).sum
 have := foldl_max_le (B := (xs.map Tm.nodes).sum) (xs.map Tm.depth) 0 (by omega) fun d hd => by
  obtain ⟨x, hx, rfl⟩ := List.mem_map.1 hd
  exact Nat.le_trans (ih x hx) (mem_sum Tm.nodes xs x hx)
 omega
def szL (lim : Int) : Int → List Int → Int
 | n, [] => n
 | n, r :: rs => if n > lim then n else szL lim (n + r) rs
def sizeI : Tm → Int := Tm.fold fun _ _ rs => szL 30 1 rs
theorem sizeI_eq (a : Tm) : sizeI a = szL 30 1 (a.args.map sizeI) := Tm.fold_eq _ a
theorem szL_spec {α : Type} (f : α → Int) (g : α → Nat) (lim : Int) : ∀ (xs : List α) (n : Int), 0 ≤ n → (∀ x ∈ xs, 1 ≤ f x ∧ f x ≤ g x ∧ (f x ≤ lim → f x = g x)) → szL lim n (xs.map f) ≤ n + (xs.map g).sum ∧ n ≤ szL lim n (xs.map f) ∧ (szL lim n (xs.map f) ≤ lim → szL lim n (xs.map f) = n + (xs.map g).sum)
 | [], n, _, _ => by simp [szL]
 | x :: xs, n, hn, h => by
  obtain ⟨h1, h2, h3⟩ := h x (by simp)
  obtain ⟨k1, k2, k3⟩ := szL_spec f g lim xs (n + f x) (by omega) fun y hy => h y (by simp [hy])
  simp only [List.map_cons, szL, List.sum_cons]
  split
  ·refine ⟨by omega, by omega, fun hh => by omega⟩
  ·refine ⟨by omega, by omega, fun hh => ?_⟩
   have := k3 hh
   rw [this]
   have : f x = g x := h3 (by omega)
   omega
theorem sizeI_spec : ∀ a : Tm, 1 ≤ sizeI a ∧ sizeI a ≤ a.nodes ∧ (sizeI a ≤ 30 → sizeI a = a.nodes) := by
 refine tm_ind fun n xs ih => ?_
 rw [sizeI_eq, Tm.nodes_eq]
 show 1 ≤ szL 30 1 (xs.map sizeI) ∧ szL 30 1 (xs.map sizeI) ≤ ((1 + (xs.map Tm.nodes).sum : Nat) : Int) ∧ _
 obtain ⟨k1, k2, k3⟩ := szL_spec sizeI Tm.nodes 30 xs 1 (by omega) ih
 refine ⟨k2, by omega, fun h => ?_⟩
 have := k3 h
 show szL 30 1 (xs.map sizeI) = _
 rw [this]; show _ = ((1 + (xs.map Tm.nodes).sum : Nat) : Int); omega
theorem sizeI_le (a : Tm) : decide (sizeI a ≤ 30) = decide (a.nodes ≤ 30) := by
 obtain ⟨h1, h2, h3⟩ := sizeI_spec a
 rw [decide_eq_decide]
 exact ⟨fun h => by have := h3 h; omega, fun h => by omega⟩
def dsum {α : Type} (f : α → Nat) (xs : List α) (k : Nat) : Nat := ((xs.drop k).map f).sum
theorem dsum_zero {α : Type} (f : α → Nat) (xs : List α) : dsum f xs 0 = (xs.map f).sum := by simp [dsum]
theorem dsum_at {α : Type} (f : α → Nat) (xs : List α) (k : Nat) (h : k < xs.length) : dsum f xs k = f xs[k] + dsum f xs (k + 1) := by
 unfold dsum
 rw [List.drop_eq_getElem_cons h, List.map_cons, List.sum_cons]
set_option maxHeartbeats 400000 in
theorem size_of (a : Tm) (hs : a.wt ≤ 1099511627776) (H : ∀ x ∈ a.args, FC Tryz.prog 235 [tmD x] [iD (sizeI x)]) : FC Tryz.prog 235 [tmD a] [iD (sizeI a)] := by
 refine FC_wf (fun hw => ?_) Tryz.call235
 have hl : a.args.length ≤ 9223372036854775807 := by rw [Tm.wt_eq] at hs; omega
 have hn := nodes_wt a
 have hN := a.nodes_eq
 simp only [tmD, tmC_eq]
 refine FC_of Tryz.call235 Tryz.func235 rfl (by kernel_rfl) (by simp only [rd, List.map_cons, List.map_nil, List.length_cons, List.length_nil, Tryz.ntmps235]; omega) ?_
 simp -implicitDefEqProofs only [go_sem, Tryz.results235]
 refine loop_rule (fun p : Nat × Int => hd [(3, vI p.2), (7, vT (tmS a.args)), (8, vI a.args.length), (9, vI p.1)] [] []) (fun p => p.1 ≤ a.args.length ∧ sizeI a = szL 30 p.2 ((a.args.drop p.1).map sizeI) ∧ 1 ≤ p.2 ∧ p.2 + dsum Tm.nodes a.args p.1 ≤ a.nodes) (fun p => a.args.length - p.1) (0, 1) (weak_hd ?_) ?_ ?_
 ·simp -implicitDefEqProofs only [go_sem]
 ·exact ⟨by simp, by rw [sizeI_eq]; rfl, by omega, by rw [dsum_zero]; omega⟩
 ·intro ⟨k, n⟩ ⟨hk, hr, h1, h2⟩
  simp only at hk hr h1 h2
  by_cases hlt : k < a.args.length
  ·have hd := dsum_at Tm.nodes a.args k hlt
   obtain ⟨s1, s2, s3⟩ := sizeI_spec a.args[k]
   rw [List.drop_eq_getElem_cons hlt, List.map_cons, szL] at hr
   simp -implicitDefEqProofs only [go_sem, getD_at, hlt, tmC_eq]
   refine ⟨fun h => ?_, fun h => ?_⟩
   ·rw [hr, if_pos (by simpa using h)]
   ·refine callF (H a.args[k] (List.getElem_mem hlt)) (by simp -implicitDefEqProofs only [go_sem, tmC_eq]) ?_
    simp -implicitDefEqProofs only [go_sem, tmC_eq]
    rw [if_neg (by simpa using h)] at hr
    exact ⟨(k + 1, n + sizeI a.args[k]), ⟨hlt, hr, by simp only; omega, by simp only; omega⟩, by simp only; omega, weak_hd (by simp -implicitDefEqProofs only [go_sem]; rw [wrap_s (by omega), wrap_in (by omega) (by omega)]; exact ⟨rfl, rfl⟩)⟩
  ·simp -implicitDefEqProofs only [go_sem, hlt]
   rw [hr, List.drop_of_length_le (by omega)]; rfl
theorem size_c : ∀ a : Tm, a.wt ≤ 1099511627776 → FC Tryz.prog 235 [tmD a] [iD (sizeI a)] :=
 tm_ind fun n xs ih hs => size_of (.mk n xs) hs fun x hx => ih x hx (by
  have := Tm.wt_eq (.mk n xs)
  have := mem_sum Tm.wt xs x hx
  simp only [Tm.args] at *; omega)
set_option maxHeartbeats 400000 in
theorem depth_of (a : Tm) (hs : a.wt ≤ 1099511627776) (H : ∀ x ∈ a.args, FC Tryz.prog 236 [tmD x] [iD x.depth]) : FC Tryz.prog 236 [tmD a] [iD a.depth] := by
 have hl : a.args.length ≤ 9223372036854775807 := by rw [Tm.wt_eq] at hs; omega
 have hn := nodes_wt a
 have hdn := depth_nodes a
 have hD := a.depth_eq
 simp only [tmD, tmC_eq]
 refine FC_of Tryz.call236 Tryz.func236 rfl (by kernel_rfl) (by simp only [rd, List.map_cons, List.map_nil, List.length_cons, List.length_nil, Tryz.ntmps236]; omega) ?_
 simp -implicitDefEqProofs only [go_sem, Tryz.results236]
 refine loop_rule (fun p : Nat × Nat => hd [(3, vI p.2), (7, vT (tmS a.args)), (8, vI a.args.length), (9, vI p.1)] [] []) (fun p => p.1 ≤ a.args.length ∧ a.depth = ((a.args.drop p.1).map Tm.depth).foldl max p.2 + 1) (fun p => a.args.length - p.1) (0, 0) (weak_hd ?_) ?_ ?_
 ·simp -implicitDefEqProofs only [go_sem]
 ·exact ⟨by simp, hD⟩
 ·intro ⟨k, n⟩ ⟨hk, hr⟩
  simp only at hk hr
  by_cases hlt : k < a.args.length
  ·rw [List.drop_eq_getElem_cons hlt, List.map_cons, List.foldl_cons] at hr
   simp -implicitDefEqProofs only [go_sem, getD_at, hlt, tmC_eq]
   refine callF (H a.args[k] (List.getElem_mem hlt)) (by simp -implicitDefEqProofs only [go_sem, tmC_eq]) ?_
   simp -implicitDefEqProofs only [go_sem, tmC_eq]
   exact ⟨(k + 1, max n a.args[k].depth), ⟨hlt, hr⟩, by simp only; omega, weak_hd (by simp -implicitDefEqProofs only [go_sem]; rw [wrap_s (by omega)]; exact ⟨by congr 1; omega, rfl⟩)⟩
  ·simp -implicitDefEqProofs only [go_sem, hlt]
   rw [List.drop_of_length_le (by omega)] at hr
   simp only [List.map_nil, List.foldl_nil] at hr
   rw [hr, wrap_s (by omega)]
theorem depth_c : ∀ a : Tm, a.wt ≤ 1099511627776 → FC Tryz.prog 236 [tmD a] [iD a.depth] :=
 tm_ind fun n xs ih hs => depth_of (.mk n xs) hs fun x hx => ih x hx (by
  have := Tm.wt_eq (.mk n xs)
  have := mem_sum Tm.wt xs x hx
  simp only [Tm.args] at *; omega)
def smallT (a : Tm) : Bool := decide (a.nodes ≤ 30) && decide (a.depth ≤ 8)
theorem isSmall_c (a : Tm) (hs : a.wt ≤ 1099511627776) : FC Tryz.prog 191 [tmD a] [bD (smallT a)] := by
 simp only [tmD, tmC_eq]
 refine FC_of Tryz.call191 Tryz.func191 rfl (by kernel_rfl) (by simp only [rd, List.map_cons, List.map_nil, List.length_cons, List.length_nil, Tryz.ntmps191]; omega) ?_
 simp -implicitDefEqProofs only [go_sem, Tryz.results191]
 refine callF (size_c a hs) (by simp -implicitDefEqProofs only [go_sem, tmC_eq]) ?_
 simp -implicitDefEqProofs only [go_sem, tmC_eq]
 rw [sizeI_le]
 refine ⟨fun h => ?_, fun h => ?_⟩
 ·refine callF (depth_c a hs) (by simp -implicitDefEqProofs only [go_sem, tmC_eq]) ?_
  simp -implicitDefEqProofs only [go_sem, tmC_eq]
  rw [smallT, h, Bool.true_and]
  congr 1
  rw [decide_eq_decide]; omega
 ·rw [smallT, h]; rfl
end Go.Proofs.YtbccfiillleimaaGreat
namespace Go.Proofs.YtbccfiillleimaaGreat
set_option linter.unusedSimpArgs false
set_option linter.unusedVariables false
set_option linter.unusedSectionVars false
set_option maxRecDepth 4000
open Go.RowKit
theorem VDs_caps (σ : St) (caps : List T) : VDs σ (caps.map fun t => .one (.t t)) (caps.map .one) = True := by
 induction caps with
 | nil => simp [VDs]
 | cons t ts ih => rw [List.map_cons, List.map_cons, VDs_cons, ih]; simp [VD_one, CT_t]
attribute [go_sem] VDs_caps
def idxP {α : Type} (xs : List α) (p : α → Bool) : Int := if xs.any p then xs.findIdx p else -1
theorem idxP_found {α : Type} {xs : List α} {p : α → Bool} {k : Nat} (hk : k < xs.length) (hn : ∀ x ∈ xs.take k, p x = false) (h : p xs[k] = true) : idxP xs p = k := by
 have ha : xs.any p = true := List.any_eq_true.2 ⟨xs[k], List.getElem_mem hk, h⟩
 have hf : xs.findIdx p = k := (List.findIdx_eq hk).2 ⟨h, fun j hj => hn _ (by
  rw [List.mem_take_iff_getElem]; exact ⟨j, by omega, rfl⟩)⟩
 rw [idxP, if_pos ha, hf]
theorem idxP_none {α : Type} {xs : List α} {p : α → Bool} (hn : ∀ x ∈ xs, p x = false) : idxP xs p = -1 := by
 have ha : xs.any p = false := by rw [List.any_eq_false]; exact fun x hx => by simp [hn x hx]
 rw [idxP, ha]; rfl
theorem idxP_any {α : Type} (xs : List α) (p : α → Bool) : decide (0 ≤ idxP xs p) = xs.any p := by
 unfold idxP
 cases xs.any p <;> simp
theorem idxP_ge {α : Type} (xs : List α) (p : α → Bool) : decide (idxP xs p ≥ 0) = xs.any p := idxP_any xs p
theorem take_all_succ {α : Type} {xs : List α} {p : α → Bool} {k : Nat} (hk : k < xs.length) (hn : ∀ x ∈ xs.take k, p x = false) (h : p xs[k] = false) : ∀ x ∈ xs.take (k + 1), p x = false := by
 rw [List.take_succ_eq_append_getElem hk]
 intro x hx
 rcases List.mem_append.1 hx with hx | hx
 ·exact hn x hx
 ·rw [List.mem_singleton.1 hx]; exact h
theorem indexFuncTerm_c (xs : List Tm) (p : Tm → Bool) (g : FuncId) (caps : List T) (H : ∀ x ∈ xs, FC Tryz.prog g (tmD x :: caps.map .one) [bD (p x)]) : FC Tryz.prog 122 [.one (tmS xs), .one (.fn g caps)] [iD (idxP xs p)] := by
 refine FC_wf (fun hw => ?_) Tryz.call122
 have hl : xs.length ≤ 9223372036854775807 := by simpa [wfDs, wfT] using hw.1.1
 refine FC_of Tryz.call122 Tryz.func122 rfl (by kernel_rfl) (by simp only [rd, List.map_cons, List.map_nil, List.length_cons, List.length_nil, Tryz.ntmps122]; omega) ?_
 simp -implicitDefEqProofs only [go_sem, Tryz.results122]
 refine loop_rule (fun k : Nat => hd [(0, vT (tmS xs)), (1, vT (.fn g caps)), (7, vI xs.length), (8, vI k)] [] []) (fun k => k ≤ xs.length ∧ ∀ x ∈ xs.take k, p x = false) (fun k => xs.length - k) 0 (weak_hd ?_) ?_ ?_
 ·simp -implicitDefEqProofs only [go_sem]
 ·simp
 ·intro k ⟨hk, hr⟩
  by_cases hlt : k < xs.length
  ·simp -implicitDefEqProofs only [go_sem, getD_at, hlt, tmC_eq]
   refine callF (H xs[k] (List.getElem_mem hlt)) (by simp -implicitDefEqProofs only [go_sem, tmC_eq]) ?_
   simp -implicitDefEqProofs only [go_sem, tmC_eq]
   refine ⟨fun h => ?_, fun h => ⟨k + 1, ⟨hlt, take_all_succ hlt hr h⟩, by omega, weak_hd (by simp -implicitDefEqProofs only [go_sem]; rw [wrap_s (by omega)])⟩⟩
   rw [idxP_found hlt hr h]
  ·simp -implicitDefEqProofs only [go_sem, hlt]
   rw [List.take_of_length_le (by omega)] at hr
   rw [idxP_none hr]
theorem containsFuncTerm_c (xs : List Tm) (p : Tm → Bool) (g : FuncId) (caps : List T) (H : ∀ x ∈ xs, FC Tryz.prog g (tmD x :: caps.map .one) [bD (p x)]) : FC Tryz.prog 63 [.one (tmS xs), .one (.fn g caps)] [bD (xs.any p)] := by
 refine FC_of Tryz.call63 Tryz.func63 rfl (by kernel_rfl) (by simp only [rd, List.map_cons, List.map_nil, List.length_cons, List.length_nil, Tryz.ntmps63]; omega) ?_
 simp -implicitDefEqProofs only [go_sem, Tryz.results63]
 refine callF (indexFuncTerm_c xs p g caps H) (by simp -implicitDefEqProofs only [go_sem]) ?_
 simp -implicitDefEqProofs only [go_sem]
 rw [idxP_any]
theorem indexFuncFormula_c (xs : List Fm) (p : Fm → Bool) (g : FuncId) (caps : List T) (H : ∀ x ∈ xs, FC Tryz.prog g (fmD x :: caps.map .one) [bD (p x)]) : FC Tryz.prog 234 [.one (fmS xs), .one (.fn g caps)] [iD (idxP xs p)] := by
 refine FC_wf (fun hw => ?_) Tryz.call234
 have hl : xs.length ≤ 9223372036854775807 := by simpa [wfDs, wfT] using hw.1.1
 refine FC_of Tryz.call234 Tryz.func234 rfl (by kernel_rfl) (by simp only [rd, List.map_cons, List.map_nil, List.length_cons, List.length_nil, Tryz.ntmps234]; omega) ?_
 simp -implicitDefEqProofs only [go_sem, Tryz.results234]
 refine loop_rule (fun k : Nat => hd [(0, vT (fmS xs)), (1, vT (.fn g caps)), (7, vI xs.length), (8, vI k)] [] []) (fun k => k ≤ xs.length ∧ ∀ x ∈ xs.take k, p x = false) (fun k => xs.length - k) 0 (weak_hd ?_) ?_ ?_
 ·simp -implicitDefEqProofs only [go_sem]
 ·simp
 ·intro k ⟨hk, hr⟩
  by_cases hlt : k < xs.length
  ·simp -implicitDefEqProofs only [go_sem, getD_at, hlt, fmC_eq, tmC_eq]
   refine callF (H xs[k] (List.getElem_mem hlt)) (by simp -implicitDefEqProofs only [go_sem, fmC_eq, tmC_eq]) ?_
   simp -implicitDefEqProofs only [go_sem, fmC_eq, tmC_eq]
   refine ⟨fun h => ?_, fun h => ⟨k + 1, ⟨hlt, take_all_succ hlt hr h⟩, by omega, weak_hd (by simp -implicitDefEqProofs only [go_sem]; rw [wrap_s (by omega)])⟩⟩
   rw [idxP_found hlt hr h]
  ·simp -implicitDefEqProofs only [go_sem, hlt]
   rw [List.take_of_length_le (by omega)] at hr
   rw [idxP_none hr]
theorem containsFuncFormula_c (xs : List Fm) (p : Fm → Bool) (g : FuncId) (caps : List T) (H : ∀ x ∈ xs, FC Tryz.prog g (fmD x :: caps.map .one) [bD (p x)]) : FC Tryz.prog 189 [.one (fmS xs), .one (.fn g caps)] [bD (xs.any p)] := by
 refine FC_of Tryz.call189 Tryz.func189 rfl (by kernel_rfl) (by simp only [rd, List.map_cons, List.map_nil, List.length_cons, List.length_nil, Tryz.ntmps189]; omega) ?_
 simp -implicitDefEqProofs only [go_sem, Tryz.results189]
 refine callF (indexFuncFormula_c xs p g caps H) (by simp -implicitDefEqProofs only [go_sem]) ?_
 simp -implicitDefEqProofs only [go_sem]
 rw [idxP_any]
end Go.Proofs.YtbccfiillleimaaGreat
namespace Go.Proofs.YtbccfiillleimaaGreat
set_option linter.unusedSimpArgs false
set_option linter.unusedVariables false
set_option linter.unusedSectionVars false
set_option maxRecDepth 4000
open Go.RowKit
def Tm.names : Tm → Bool := Tm.fold fun n xs rs => if varOk n = true then decide (xs.length = 0) else symOk n && decide (xs.length ≤ 4) && rs.all id
theorem Tm.names_eq (a : Tm) : a.names = if varOk a.name = true then decide (a.args.length = 0) else symOk a.name && decide (a.args.length ≤ 4) && a.args.all Tm.names := by
 unfold Tm.names
 rw [Tm.fold_eq]
 simp only [List.all_map]
 rfl
theorem not_any {α : Type} (xs : List α) (p : α → Bool) : (!xs.any fun x => !p x) = xs.all p := by
 induction xs with
 | nil => rfl
 | cons x xs ih => simp only [List.any_cons, List.all_cons, Bool.not_or, Bool.not_not, ih]
theorem hasNames_of (a : Tm) (H : ∀ x ∈ a.args, FC Tryz.prog 192 [tmD x] [bD x.names]) : FC Tryz.prog 192 [tmD a] [bD a.names] := by
 have H1 : ∀ x ∈ a.args, FC Tryz.prog 238 [tmD x] [bD (!x.names)] := fun x hx => by
  simp only [tmD, tmC_eq]
  refine FC_of Tryz.call238 Tryz.func238 rfl (by kernel_rfl) (by simp only [rd, List.map_cons, List.map_nil, List.length_cons, List.length_nil, Tryz.ntmps238]; omega) ?_
  simp -implicitDefEqProofs only [go_sem, Tryz.results238]
  refine callF (H x hx) (by simp -implicitDefEqProofs only [go_sem, tmC_eq]) ?_
  simp -implicitDefEqProofs only [go_sem, tmC_eq]
 have hN := a.names_eq
 simp only [tmD, tmC_eq]
 refine FC_of Tryz.call192 Tryz.func192 rfl (by kernel_rfl) (by simp only [rd, List.map_cons, List.map_nil, List.length_cons, List.length_nil, Tryz.ntmps192]; omega) ?_
 simp -implicitDefEqProofs only [go_sem, Tryz.results192]
 refine callF (isVariable_c a.name) (by simp -implicitDefEqProofs only [go_sem]) ?_
 simp -implicitDefEqProofs only [go_sem]
 refine ⟨fun h => ?_, fun h => ?_⟩
 ·rw [hN, if_pos h]
  congr 1
  rw [Bool.eq_iff_iff]; simp
 ·rw [h] at hN
  simp only [Bool.false_eq_true, if_false] at hN
  refine callF (isSymbol_c a.name) (by simp -implicitDefEqProofs only [go_sem]) ?_
  simp -implicitDefEqProofs only [go_sem]
  refine ⟨fun h1 => ⟨fun h2 => ?_, fun h2 => ?_⟩, fun h1 => ?_⟩
  ·refine callF (containsFuncTerm_c a.args (fun x => !x.names) _ [] H1) (by simp -implicitDefEqProofs only [go_sem]) ?_
   simp -implicitDefEqProofs only [go_sem]
   rw [not_any, hN, h1, Bool.true_and]
   rw [show decide (a.args.length ≤ 4) = true by simp at h2 ⊢; omega]; rfl
  ·rw [hN, h1, Bool.true_and, show decide (a.args.length ≤ 4) = false by simp at h2 ⊢; omega]; rfl
  ·rw [hN, h1]; rfl
theorem hasNames_c : ∀ a : Tm, FC Tryz.prog 192 [tmD a] [bD a.names] := tm_ind fun n xs ih => hasNames_of (.mk n xs) ih
def Tm.good (a : Tm) : Bool := smallT a && a.names
theorem isValidTerm_c (a : Tm) (hs : a.wt ≤ 1099511627776) : FC Tryz.prog 123 [tmD a] [bD a.good] := by
 simp only [tmD, tmC_eq]
 refine FC_of Tryz.call123 Tryz.func123 rfl (by kernel_rfl) (by simp only [rd, List.map_cons, List.map_nil, List.length_cons, List.length_nil, Tryz.ntmps123]; omega) ?_
 simp -implicitDefEqProofs only [go_sem, Tryz.results123]
 refine callF (isSmall_c a hs) (by simp -implicitDefEqProofs only [go_sem, tmC_eq]) ?_
 simp -implicitDefEqProofs only [go_sem, tmC_eq]
 refine ⟨fun h => ?_, fun h => ?_⟩
 ·refine callF (hasNames_c a) (by simp -implicitDefEqProofs only [go_sem, tmC_eq]) ?_
  simp -implicitDefEqProofs only [go_sem, tmC_eq]
  rw [Tm.good, h, Bool.true_and]
 ·rw [Tm.good, h, Bool.false_and]
theorem isEquality_c (a : Tm) : FC Tryz.prog 254 [tmD a] [bD (a.name == [61])] := by
 simp only [tmD, tmC_eq]
 refine FC_of Tryz.call254 Tryz.func254 rfl (by kernel_rfl) (by simp only [rd, List.map_cons, List.map_nil, List.length_cons, List.length_nil, Tryz.ntmps254]; omega) ?_
 simp -implicitDefEqProofs only [go_sem, Tryz.results254]
def Tm.atomOk (a : Tm) : Bool := if (a.name == [61]) = true then decide (a.args.length = 2) && smallT a && a.args.all Tm.names else symOk a.name && a.good
theorem all_two {α : Type} {xs : List α} {p : α → Bool} (h : xs.length = 2) : xs.all p = (p (xs[0]'(by omega)) && p (xs[1]'(by omega))) := by
 match xs, h with
 | [a, b], _ => simp
theorem isValidAtom_c (a : Tm) (hs : a.wt ≤ 1099511627776) : FC Tryz.prog 219 [tmD a] [bD a.atomOk] := by
 have hN : a.atomOk = if (a.name == [61]) = true then decide (a.args.length = 2) && smallT a && a.args.all Tm.names else symOk a.name && a.good := rfl
 simp only [tmD, tmC_eq]
 refine FC_of Tryz.call219 Tryz.func219 rfl (by kernel_rfl) (by simp only [rd, List.map_cons, List.map_nil, List.length_cons, List.length_nil, Tryz.ntmps219]; omega) ?_
 simp -implicitDefEqProofs only [go_sem, Tryz.results219]
 refine callF (isEquality_c a) (by simp -implicitDefEqProofs only [go_sem, tmC_eq]) ?_
 simp -implicitDefEqProofs only [go_sem, tmC_eq]
 refine ⟨fun h => ?_, fun h => ?_⟩
 ·rw [if_pos h] at hN
  by_cases h2 : a.args.length = 2
  ·have k0 : 0 < a.args.length := by omega
   have k1 : 1 < a.args.length := by omega
   have e2 : ((a.args.length : Int) == 2) = true := by simp [h2]
   have l0 : (0 : Int) < a.args.length := by omega
   have l1 : (1 : Int) < a.args.length := by omega
   rw [all_two h2, show decide (a.args.length = 2) = true by simp [h2]] at hN
   simp only [Bool.true_and] at hN
   simp only [e2, tt_eq, imp_self', tf_eq, imp_false', and_true]
   refine callF (isSmall_c a hs) (by simp -implicitDefEqProofs only [go_sem, tmC_eq, l0, getD_at, k0]) ?_
   simp -implicitDefEqProofs only [go_sem, tmC_eq, l0, getD_at, k0]
   refine ⟨fun h3 => ?_, fun h3 => ?_⟩
   ·refine callF (hasNames_c a.args[0]) (by simp -implicitDefEqProofs only [go_sem, tmC_eq, l1, getD_at, k1]) ?_
    simp -implicitDefEqProofs only [go_sem, tmC_eq, l1, getD_at, k1]
    refine ⟨fun h4 => ?_, fun h4 => ?_⟩
    ·refine callF (hasNames_c a.args[1]) (by simp -implicitDefEqProofs only [go_sem, tmC_eq]) ?_
     simp -implicitDefEqProofs only [go_sem, tmC_eq]
     rw [hN, h3, h4]; rfl
    ·rw [hN, h3, h4]; rfl
   ·rw [hN, h3]; rfl
  ·have e2 : ((a.args.length : Int) == 2) = false := by simp; omega
   simp only [e2, tt_eq, ft_eq, imp_self', imp_false', and_true, true_and, ff_eq]
   rw [hN, show decide (a.args.length = 2) = false by simpa using h2]; rfl
 ·rw [h] at hN
  simp only [Bool.false_eq_true, if_false] at hN
  refine callF (isSymbol_c a.name) (by simp -implicitDefEqProofs only [go_sem]) ?_
  simp -implicitDefEqProofs only [go_sem]
  refine ⟨fun h3 => ?_, fun h3 => ?_⟩
  ·refine callF (isValidTerm_c a hs) (by simp -implicitDefEqProofs only [go_sem, tmC_eq]) ?_
   simp -implicitDefEqProofs only [go_sem, tmC_eq]
   rw [hN, h3, Bool.true_and]
  ·rw [hN, h3, Bool.false_and]
def Tm.none (a : Tm) : Bool := a.name == [] && decide (a.args.length = 0)
theorem isZeroTerm_c (a : Tm) : FC Tryz.prog 220 [tmD a] [bD a.none] := by
 simp only [tmD, tmC_eq]
 refine FC_of Tryz.call220 Tryz.func220 rfl (by kernel_rfl) (by simp only [rd, List.map_cons, List.map_nil, List.length_cons, List.length_nil, Tryz.ntmps220]; omega) ?_
 simp -implicitDefEqProofs only [go_sem, Tryz.results220]
 unfold Tm.none
 refine ⟨fun h => ?_, fun h => ?_⟩
 ·rw [h, Bool.true_and]
  congr 1
  rw [Bool.eq_iff_iff]; simp
 ·rw [h]; rfl
def isQ (n : Int) : Bool := n == 8 || n == 9
def isBi (n : Int) : Bool := n == 5 || n == 6 || n == 7
theorem isQuantifier_c (n : Int) : FC Tryz.prog 151 [iD n] [bD (isQ n)] := by
 refine FC_of Tryz.call151 Tryz.func151 rfl (by kernel_rfl) (by simp only [rd, List.map_cons, List.map_nil, List.length_cons, List.length_nil, Tryz.ntmps151]; omega) ?_
 simp -implicitDefEqProofs only [go_sem, Tryz.results151]
 unfold isQ
 refine ⟨fun h => ?_, fun h => ?_⟩ <;> simp [h]
theorem isBinary_c (n : Int) : FC Tryz.prog 218 [iD n] [bD (isBi n)] := by
 refine FC_of Tryz.call218 Tryz.func218 rfl (by kernel_rfl) (by simp only [rd, List.map_cons, List.map_nil, List.length_cons, List.length_nil, Tryz.ntmps218]; omega) ?_
 simp -implicitDefEqProofs only [go_sem, Tryz.results218]
 unfold isBi
 refine ⟨fun h => ⟨fun h2 => ?_, fun h2 => ?_⟩, fun h => ?_⟩ <;> simp [*]
end Go.Proofs.YtbccfiillleimaaGreat
namespace Go.Proofs.YtbccfiillleimaaGreat
set_option linter.unusedSimpArgs false
set_option linter.unusedVariables false
set_option linter.unusedSectionVars false
set_option maxRecDepth 4000
open Go.RowKit
def voI : Tm → List Str := Tm.fold fun n xs rs => if (decide (xs.length = 0) && isUp (n.getD 0 0)) = true then [n] else rs.flatten
theorem voI_eq (a : Tm) : voI a = if (decide (a.args.length = 0) && isUp (a.name.getD 0 0)) = true then [a.name] else (a.args.map voI).flatten := Tm.fold_eq _ a
def voS : Tm → List Str := Tm.fold fun n _ rs => if varOk n = true then [n] else rs.flatten
theorem voS_eq (a : Tm) : voS a = if varOk a.name = true then [a.name] else (a.args.map voS).flatten := Tm.fold_eq _ a
def Tm.ne : Tm → Bool := Tm.fold fun n xs rs => (!decide (xs.length = 0) || decide (0 < n.length)) && rs.all id
theorem Tm.ne_eq' (a : Tm) : a.ne = ((!decide (a.args.length = 0) || decide (0 < a.name.length)) && a.args.all Tm.ne) := by
 unfold Tm.ne
 rw [Tm.fold_eq]
 simp only [List.all_map]
 rfl
def addS (l : List Str) (s : Str) : List Str := if l.contains s = true then l else l ++ [s]
def addSs (l : List Str) (ss : List Str) : List Str := ss.foldl addS l
theorem addS_len (l : List Str) (s : Str) : (addS l s).length ≤ l.length + 1 := by unfold addS; split <;> simp
theorem addSs_len : ∀ (ss : List Str) (l : List Str), (addSs l ss).length ≤ l.length + ss.length
 | [], l => by simp [addSs]
 | s :: ss, l => by have := addSs_len ss (addS l s); have := addS_len l s; simp only [addSs, List.foldl_cons, List.length_cons] at *; omega
theorem addSs_app (l a b : List Str) : addSs l (a ++ b) = addSs (addSs l a) b := List.foldl_append ..
theorem addS_mem (l : List Str) (s x : Str) : x ∈ addS l s ↔ x = s ∨ x ∈ l := by
 unfold addS
 split
 ·rename_i h
  have h : s ∈ l := by simpa using h
  exact ⟨Or.inr, fun k => k.elim (fun e => e ▸ h) id⟩
 ·simp [or_comm]
theorem addSs_mem : ∀ (ss l : List Str) (x : Str), x ∈ addSs l ss ↔ x ∈ ss ∨ x ∈ l
 | [], l, x => by simp [addSs]
 | s :: ss, l, x => by
  show x ∈ addSs (addS l s) ss ↔ _
  rw [addSs_mem ss, addS_mem]; simp [or_assoc, or_left_comm, or_comm]
theorem addS_nd {l : List Str} (h : l.Nodup) (s : Str) : (addS l s).Nodup := by
 unfold addS
 split
 ·exact h
 ·rename_i hn
  have hn : s ∉ l := by simpa using hn
  exact List.nodup_append.2 ⟨h, by simp, fun a ha b hb e => hn (by rw [List.mem_singleton.1 hb] at e; exact e ▸ ha)⟩
theorem addSs_nd : ∀ (ss : List Str) {l : List Str}, l.Nodup → (addSs l ss).Nodup
 | [], _, h => h
 | s :: ss, _, h => addSs_nd ss (addS_nd h s)
def putSs (l : List Str) (ss : List Str) : List Str := ss.foldl putS l
theorem putS_len (l : List Str) (s : Str) : (putS l s).length ≤ l.length + 1 := by
 unfold putS
 split
 ·omega
 ·have : l.length = ((l.takeWhile fun x => Op.bytesLess x s) ++ l.dropWhile fun x => Op.bytesLess x s).length := by rw [List.takeWhile_append_dropWhile]
  simp only [List.length_append, List.length_cons, List.length_nil] at *; omega
theorem putSs_len : ∀ (ss : List Str) (l : List Str), (putSs l ss).length ≤ l.length + ss.length
 | [], l => by simp [putSs]
 | s :: ss, l => by have := putSs_len ss (putS l s); have := putS_len l s; simp only [putSs, List.foldl_cons, List.length_cons] at *; omega
theorem putSs_app (l a b : List Str) : putSs l (a ++ b) = putSs (putSs l a) b := List.foldl_append ..
theorem putSs_mem : ∀ (ss l : List Str) (x : Str), x ∈ putSs l ss ↔ x ∈ ss ∨ x ∈ l
 | [], l, x => by simp [putSs]
 | s :: ss, l, x => by
  show x ∈ putSs (putS l s) ss ↔ _
  rw [putSs_mem ss, putS_mem]; simp [or_assoc, or_left_comm, or_comm]
theorem putSs_srt : ∀ (ss : List Str) {l : List Str}, Srt l → Srt (putSs l ss)
 | [], _, h => h
 | s :: ss, _, h => putSs_srt ss (putS_srt h s)
theorem sort_put (ss : List Str) : sortS (addSs [] ss) = putSs [] ss :=
 srt_ext (sortS_srt (addSs_nd ss List.nodup_nil)) (putSs_srt ss List.Pairwise.nil) fun s => by rw [sortS_mem, addSs_mem, putSs_mem]
theorem isVar_c (a : Tm) (h : 0 < a.name.length) : FC Tryz.prog 193 [tmD a] [bD (isUp (a.name.getD 0 0))] := by
 simp only [tmD, tmC_eq]
 refine FC_of Tryz.call193 Tryz.func193 rfl (by kernel_rfl) (by simp only [rd, List.map_cons, List.map_nil, List.length_cons, List.length_nil, Tryz.ntmps193]; omega) ?_
 simp -implicitDefEqProofs only [go_sem, Tryz.results193]
 have h0 : (0 : Int) < a.name.length := by omega
 simp -implicitDefEqProofs only [go_sem, h0, h]
 refine callF (isUpper_c (a.name.getD 0 0)) (by simp -implicitDefEqProofs only [go_sem]) ?_
 simp -implicitDefEqProofs only [go_sem]
theorem flatM_succ {α : Type} (f : α → List Str) (xs : List α) (k : Nat) (h : k < xs.length) : ((xs.take (k + 1)).map f).flatten = ((xs.take k).map f).flatten ++ f xs[k] := by
 rw [List.take_succ_eq_append_getElem h, List.map_append, List.flatten_append]; simp
theorem flat_le {α : Type} (f : α → List Str) : ∀ (xs : List α), ∀ x ∈ xs, (f x).length ≤ ((xs.map f).flatten).length
 | [], x, h => by simp at h
 | a :: xs, x, h => by
  rcases List.mem_cons.1 h with rfl | h
  ·simp
  ·have := flat_le f xs x h; simp at *; omega
theorem flat_take_le {α : Type} (f : α → List Str) (xs : List α) (k : Nat) (h : k < xs.length) : (((xs.take k).map f).flatten).length + (f xs[k]).length ≤ ((xs.map f).flatten).length := by
 have e : xs = xs.take k ++ xs[k] :: xs.drop (k + 1) := by rw [← List.drop_eq_getElem_cons h, List.take_append_drop]
 conv => rhs; rw [e]
 simp only [List.map_append, List.map_cons, List.flatten_append, List.flatten_cons, List.length_append]; omega
set_option maxHeartbeats 1000000 in
theorem collect_of (a : Tm) (ha : a.ne = true) (H : ∀ x ∈ a.args, ∀ ys : List Str, ys.length + (voI x).length ≤ 1073741824 → GC Tryz.prog 124 [(true, .one (strS ys)), (false, tmD x)] [.one (strS (addSs ys (voI x)))])
  (ys : List Str) (hs : ys.length + (voI a).length ≤ 1073741824) (hl : a.args.length ≤ 1099511627776) : GC Tryz.prog 124 [(true, .one (strS ys)), (false, tmD a)] [.one (strS (addSs ys (voI a)))] := by
 have hv := voI_eq a
 rw [Tm.ne_eq'] at ha
 simp only [tmD, tmC_eq]
 refine GC_ofN Tryz.call124 Tryz.func124 rfl (by kernel_rfl) (by simp only [List.length_cons, List.length_nil, Tryz.ntmps124]; omega) (by simp [smallG, T.isPin]) ?_
 simp -implicitDefEqProofs only [go_sem, Tryz.results124]
 by_cases h0 : a.args.length = 0
 ·have hn : 0 < a.name.length := by simp [h0] at ha; omega
  have e0 : ((a.args.length : Int) == 0) = true := by simp [h0]
  have hV := isVar_c a hn
  simp only [tmD, tmC_eq] at hV
  simp -implicitDefEqProofs only [go_sem, e0]
  refine callF (hV) (by simp -implicitDefEqProofs only [go_sem]) ?_
  simp -implicitDefEqProofs only [go_sem]
  refine ⟨fun h1 => ?_, fun h1 => ?_⟩
  ·rw [h1, show decide (a.args.length = 0) = true by simpa using h0, Bool.true_and, if_pos rfl] at hv
   rw [hv] at hs ⊢
   refine callF (containsStr_c ys a.name) (by simp -implicitDefEqProofs only [go_sem]) ?_
   simp -implicitDefEqProofs only [go_sem]
   have hy : ys.length + 1 ≤ 4294967296 := by simp at hs; omega
   have hy2 : ys.length ≤ 4294967295 := by simp at hs; omega
   refine ⟨fun h2 => ?_, fun h2 => ?_⟩
   ·have h2 : ys.contains a.name = false := by simpa using h2
    refine buildDc (by simp -implicitDefEqProofs only [go_sem]) ?_
    simp -implicitDefEqProofs only [go_sem]
    refine apD true (by simp -implicitDefEqProofs only [go_sem, hy, hy2, ne_eq, List.length_map]) ?_
    simp -implicitDefEqProofs only [go_sem, hy, hy2, ne_eq, List.length_map]
    have e : addSs ys [a.name] = ys ++ [a.name] := by show addS ys a.name = _; unfold addS; rw [h2]; simp
    exact Or.inl (by rw [e]; simp)
   ·have h2 : ys.contains a.name = true := by simpa using h2
    have e : addSs ys [a.name] = ys := by show addS ys a.name = _; unfold addS; rw [h2]; simp
    exact Or.inl (by rw [e])
  ·rw [h1, Bool.and_false, if_neg (by simp), List.length_eq_zero_iff.1 h0, List.map_nil, List.flatten_nil] at hv
   have hv : voI a = (a.args.map voI).flatten := by rw [hv, List.length_eq_zero_iff.1 h0]; rfl
   rw [hv] at hs ⊢
   refine loop_rule (fun k : Nat => hd [(0, .one (.ow 0 0)), (27, .one (.rn (tmS a.args))), (28, vI a.args.length), (29, vI k)] [] [(0, ⟨true, 1, (addSs ys ((a.args.take k).map voI).flatten).map fun s => [.str s], 0, true⟩)]) (fun k => k ≤ a.args.length) (fun k => a.args.length - k) 0 (weak_hd ?_) (Nat.zero_le _) ?_
   ·simp -implicitDefEqProofs only [go_sem]
    rfl
   ·intro k hk
    by_cases hlt : k < a.args.length
    ·have hf := flat_take_le voI a.args k hlt
     have hL := addSs_len ((a.args.take k).map voI).flatten ys
     have hx := flat_le voI a.args _ (List.getElem_mem hlt)
     have HC := H a.args[k] (List.getElem_mem hlt) (addSs ys ((a.args.take k).map voI).flatten) (by omega)
     rw [← addSs_app, ← flatM_succ voI a.args k hlt] at HC
     simp only [tmD, tmC_eq a.args[k]] at HC
     simp -implicitDefEqProofs only [go_sem, getD_at, hlt, tmC_eq a.args[k]]
     refine callGL [27, 28, 29] [33, 34] [] (HC) (by simp -implicitDefEqProofs only [go_sem]) (by simp -implicitDefEqProofs only [go_sem]) (by simp -implicitDefEqProofs only [go_sem]) (by simp -implicitDefEqProofs only [go_sem]) ?_
     simp -implicitDefEqProofs only [go_sem]
     refine ⟨k + 1, hlt, by omega, weak_ren 0 1120 ?_⟩
     simp -implicitDefEqProofs only [go_sem]
     rw [wrap_s (by omega)]
    ·simp -implicitDefEqProofs only [go_sem, hlt]
     exact Or.inl (by rw [List.take_of_length_le (by omega)])
 ·have e0 : ((a.args.length : Int) == 0) = false := by simp [h0]
  rw [show decide (a.args.length = 0) = false by simpa using h0, Bool.false_and, if_neg (by simp)] at hv
  rw [hv] at hs ⊢
  simp -implicitDefEqProofs only [go_sem, e0]
  refine loop_rule (fun k : Nat => hd [(0, .one (.ow 0 0)), (27, .one (.rn (tmS a.args))), (28, vI a.args.length), (29, vI k)] [] [(0, ⟨true, 1, (addSs ys ((a.args.take k).map voI).flatten).map fun s => [.str s], 0, true⟩)]) (fun k => k ≤ a.args.length) (fun k => a.args.length - k) 0 (weak_hd ?_) (Nat.zero_le _) ?_
  ·simp -implicitDefEqProofs only [go_sem]
   rfl
  ·intro k hk
   by_cases hlt : k < a.args.length
   ·have hf := flat_take_le voI a.args k hlt
    have hL := addSs_len ((a.args.take k).map voI).flatten ys
    have hx := flat_le voI a.args _ (List.getElem_mem hlt)
    have HC := H a.args[k] (List.getElem_mem hlt) (addSs ys ((a.args.take k).map voI).flatten) (by omega)
    rw [← addSs_app, ← flatM_succ voI a.args k hlt] at HC
    simp only [tmD, tmC_eq a.args[k]] at HC
    simp -implicitDefEqProofs only [go_sem, getD_at, hlt, tmC_eq a.args[k]]
    refine callGL [27, 28, 29] [33, 34] [] (HC) (by simp -implicitDefEqProofs only [go_sem]) (by simp -implicitDefEqProofs only [go_sem]) (by simp -implicitDefEqProofs only [go_sem]) (by simp -implicitDefEqProofs only [go_sem]) ?_
    simp -implicitDefEqProofs only [go_sem]
    refine ⟨k + 1, hlt, by omega, weak_ren 0 1120 ?_⟩
    simp -implicitDefEqProofs only [go_sem]
    rw [wrap_s (by omega)]
   ·simp -implicitDefEqProofs only [go_sem, hlt]
    exact Or.inl (by rw [List.take_of_length_le (by omega)])
theorem collect_c : ∀ a : Tm, a.ne = true → a.wt ≤ 1099511627776 → ∀ ys : List Str, ys.length + (voI a).length ≤ 1073741824 → GC Tryz.prog 124 [(true, .one (strS ys)), (false, tmD a)] [.one (strS (addSs ys (voI a)))] :=
 tm_ind fun n xs ih ha hw ys hs => collect_of (.mk n xs) ha (fun x hx ys hs => ih x hx (by rw [Tm.ne_eq', Bool.and_eq_true] at ha; exact List.all_eq_true.1 ha.2 x hx) (by
  have := Tm.wt_eq (.mk n xs)
  have := mem_sum Tm.wt xs x hx
  simp only [Tm.args] at *; omega) ys hs) ys hs (by have := Tm.wt_eq (.mk n xs); omega)
theorem variables_c (a : Tm) (ha : a.ne = true) (hw : a.wt ≤ 1099511627776) (hs : (voI a).length ≤ 1073741824) : FC Tryz.prog 205 [tmD a] [.one (strS (putSs [] (voI a)))] := by
 have HC := collect_c a ha hw [] (by simpa using hs)
 have HS := sortStr_c (addSs [] (voI a)) (by have := addSs_len (voI a) []; simp at this; omega)
 rw [sort_put] at HS
 simp only [tmD, tmC_eq] at HC ⊢
 refine FC_ofN Tryz.call205 Tryz.func205 rfl (by kernel_rfl) (by simp only [rd, List.map_cons, List.map_nil, List.length_cons, List.length_nil, Tryz.ntmps205]; omega) ?_
 simp -implicitDefEqProofs only [go_sem, Tryz.results205]
 refine buildDc (by simp -implicitDefEqProofs only [go_sem]) ?_
 simp -implicitDefEqProofs only [go_sem]
 refine callGL [] [4, 5] [] (HC) (by simp -implicitDefEqProofs only [go_sem]) (by simp -implicitDefEqProofs only [go_sem]) (by simp -implicitDefEqProofs only [go_sem]) (by simp -implicitDefEqProofs only [go_sem]) ?_
 simp -implicitDefEqProofs only [go_sem]
 refine callIs (HS) (by simp -implicitDefEqProofs only [go_sem, flR_strs]) (by simp -implicitDefEqProofs only [go_sem, flR_strs]) rfl ?_
 simp -implicitDefEqProofs only [go_sem, flR_strs]
theorem l2Into_of (a : Tm) (H : ∀ x ∈ a.args, ∀ ys : List Str, ys.length + (voS x).length ≤ 1073741824 → GC Tryz.prog 161 [(true, .one (strS ys)), (false, tmD x)] [.one (strS (putSs ys (voS x)))])
  (ys : List Str) (hs : ys.length + (voS a).length ≤ 1073741824) (hl : a.args.length ≤ 1099511627776) : GC Tryz.prog 161 [(true, .one (strS ys)), (false, tmD a)] [.one (strS (putSs ys (voS a)))] := by
 have hv := voS_eq a
 simp only [tmD, tmC_eq]
 refine GC_ofN Tryz.call161 Tryz.func161 rfl (by kernel_rfl) (by simp only [List.length_cons, List.length_nil, Tryz.ntmps161]; omega) (by simp [smallG, T.isPin]) ?_
 simp -implicitDefEqProofs only [go_sem, Tryz.results161]
 refine callF (l2Var_c a.name) (by simp -implicitDefEqProofs only [go_sem]) ?_
 simp -implicitDefEqProofs only [go_sem]
 refine ⟨fun h => ?_, fun h => ?_⟩
 ·rw [if_pos h] at hv
  rw [hv] at hs ⊢
  refine callGL [] [9, 11] [] (l2Put_c ys a.name (by simp at hs; omega)) (by simp -implicitDefEqProofs only [go_sem]) (by simp -implicitDefEqProofs only [go_sem]) (by simp -implicitDefEqProofs only [go_sem]) (by simp -implicitDefEqProofs only [go_sem]) ?_
  simp -implicitDefEqProofs only [go_sem]
  exact Or.inl rfl
 ·rw [h, if_neg (by simp)] at hv
  rw [hv] at hs ⊢
  refine loop_rule (fun k : Nat => hd [(0, .one (.ow 0 0)), (3, .one (.bx 3 0)), (5, vI k)] [(3, [.t (.str a.name), .rn (tmS a.args)])] [(0, ⟨true, 1, (putSs ys ((a.args.take k).map voS).flatten).map fun s => [.str s], 0, true⟩)]) (fun k => k ≤ a.args.length) (fun k => a.args.length - k) 0 (weak_hd ?_) (Nat.zero_le _) ?_
  ·simp -implicitDefEqProofs only [go_sem]
   rfl
  ·intro k hk
   by_cases hlt : k < a.args.length
   ·have hf := flat_take_le voS a.args k hlt
    have hL := putSs_len ((a.args.take k).map voS).flatten ys
    have HC := H a.args[k] (List.getElem_mem hlt) (putSs ys ((a.args.take k).map voS).flatten) (by omega)
    rw [← putSs_app, ← flatM_succ voS a.args k hlt] at HC
    simp only [tmD, tmC_eq a.args[k]] at HC
    simp -implicitDefEqProofs only [go_sem, getD_at, hlt, tmC_eq a.args[k]]
    refine callGL [3, 5] [20, 25] [] (HC) (by simp -implicitDefEqProofs only [go_sem]) (by simp -implicitDefEqProofs only [go_sem]) (by simp -implicitDefEqProofs only [go_sem]) (by simp -implicitDefEqProofs only [go_sem]) ?_
    simp -implicitDefEqProofs only [go_sem]
    refine ⟨k + 1, hlt, by omega, weak_ren 0 832 ?_⟩
    simp -implicitDefEqProofs only [go_sem]
    rw [wrap_s (by omega)]
   ·simp -implicitDefEqProofs only [go_sem, hlt]
    exact Or.inl (by rw [List.take_of_length_le (by omega)])
end Go.Proofs.YtbccfiillleimaaGreat
namespace Go.Proofs.YtbccfiillleimaaGreat
set_option linter.unusedSimpArgs false
set_option linter.unusedVariables false
set_option linter.unusedSectionVars false
set_option maxRecDepth 4000
open Go.RowKit
def Fm.nodes : Fm → Nat := Fm.fold fun _ _ _ _ rs => 1 + rs.sum
theorem Fm.nodes_eq (a : Fm) : a.nodes = 1 + (a.parts.map Fm.nodes).sum := Fm.fold_eq _ a
theorem fnodes_wt : ∀ a : Fm, a.nodes ≤ 1 + a.wt := by
 refine fm_ind fun o a v xs ih => ?_
 rw [Fm.nodes_eq, Fm.wt_eq]
 show 1 + (xs.map Fm.nodes).sum ≤ 1 + (a.wt + v.length + xs.length + (xs.map Fm.wt).sum)
 have : (xs.map Fm.nodes).sum ≤ xs.length + (xs.map Fm.wt).sum := by
  induction xs with
  | nil => simp
  | cons x xs ih2 =>
   have h1 := ih x (by simp)
   have h2 := ih2 fun y hy => ih y (by simp [hy])
   simp only [List.map_cons, List.sum_cons, List.length_cons]
   omega
 omega
def sizeF : Fm → Int := Fm.fold fun _ _ _ _ rs => szL 40 1 rs
theorem sizeF_eq (a : Fm) : sizeF a = szL 40 1 (a.parts.map sizeF) := Fm.fold_eq _ a
theorem sizeF_spec : ∀ a : Fm, 1 ≤ sizeF a ∧ sizeF a ≤ a.nodes ∧ (sizeF a ≤ 40 → sizeF a = a.nodes) := by
 refine fm_ind fun o a v xs ih => ?_
 rw [sizeF_eq, Fm.nodes_eq]
 show 1 ≤ szL 40 1 (xs.map sizeF) ∧ szL 40 1 (xs.map sizeF) ≤ ((1 + (xs.map Fm.nodes).sum : Nat) : Int) ∧ _
 obtain ⟨k1, k2, k3⟩ := szL_spec sizeF Fm.nodes 40 xs 1 (by omega) ih
 refine ⟨k2, by omega, fun h => ?_⟩
 have := k3 h
 show szL 40 1 (xs.map sizeF) = _
 rw [this]; show _ = ((1 + (xs.map Fm.nodes).sum : Nat) : Int); omega
theorem sizeF_le (a : Fm) : decide (sizeF a ≤ 40) = decide (a.nodes ≤ 40) := by
 obtain ⟨h1, h2, h3⟩ := sizeF_spec a
 rw [decide_eq_decide]
 exact ⟨fun h => by have := h3 h; omega, fun h => by omega⟩
theorem fparts_wt {a x : Fm} (h : x ∈ a.parts) : x.wt ≤ a.wt := by
 have := Fm.wt_eq a
 have := mem_sum Fm.wt a.parts x h
 omega
theorem args_wt {a x : Tm} (h : x ∈ a.args) : x.wt ≤ a.wt := by
 have := Tm.wt_eq a
 have := mem_sum Tm.wt a.args x h
 omega
theorem atom_wt (a : Fm) : a.atom.wt ≤ a.wt := by have := Fm.wt_eq a; omega
set_option maxHeartbeats 400000 in
theorem sizeOf_of (a : Fm) (hs : a.wt ≤ 1099511627776) (H : ∀ x ∈ a.parts, FC Tryz.prog 183 [fmD x] [iD (sizeF x)]) : FC Tryz.prog 183 [fmD a] [iD (sizeF a)] := by
 have hl : a.parts.length ≤ 9223372036854775807 := by rw [Fm.wt_eq] at hs; omega
 have hn := fnodes_wt a
 have hN := a.nodes_eq
 simp only [fmD, fmC_eq]
 refine FC_of Tryz.call183 Tryz.func183 rfl (by kernel_rfl) (by simp only [rd, List.map_cons, List.map_nil, List.length_cons, List.length_nil, Tryz.ntmps183]; omega) ?_
 simp -implicitDefEqProofs only [go_sem, Tryz.results183]
 refine loop_rule (fun p : Nat × Int => hd [(3, vI p.2), (7, vT (fmS a.parts)), (8, vI a.parts.length), (9, vI p.1)] [] []) (fun p => p.1 ≤ a.parts.length ∧ sizeF a = szL 40 p.2 ((a.parts.drop p.1).map sizeF) ∧ 1 ≤ p.2 ∧ p.2 + dsum Fm.nodes a.parts p.1 ≤ a.nodes) (fun p => a.parts.length - p.1) (0, 1) (weak_hd ?_) ?_ ?_
 ·simp -implicitDefEqProofs only [go_sem]
 ·exact ⟨by simp, by rw [sizeF_eq]; rfl, by omega, by rw [dsum_zero]; omega⟩
 ·intro ⟨k, n⟩ ⟨hk, hr, h1, h2⟩
  simp only at hk hr h1 h2
  by_cases hlt : k < a.parts.length
  ·have hd := dsum_at Fm.nodes a.parts k hlt
   obtain ⟨s1, s2, s3⟩ := sizeF_spec a.parts[k]
   rw [List.drop_eq_getElem_cons hlt, List.map_cons, szL] at hr
   simp -implicitDefEqProofs only [go_sem, getD_at, hlt, fmC_eq]
   refine ⟨fun h => ?_, fun h => ?_⟩
   ·rw [hr, if_pos (by simpa using h)]
   ·refine callF (H a.parts[k] (List.getElem_mem hlt)) (by simp -implicitDefEqProofs only [go_sem, fmC_eq]) ?_
    simp -implicitDefEqProofs only [go_sem, fmC_eq]
    rw [if_neg (by simpa using h)] at hr
    exact ⟨(k + 1, n + sizeF a.parts[k]), ⟨hlt, hr, by simp only; omega, by simp only; omega⟩, by simp only; omega, weak_hd (by simp -implicitDefEqProofs only [go_sem]; rw [wrap_s (by omega), wrap_in (by omega) (by omega)]; exact ⟨rfl, rfl⟩)⟩
  ·simp -implicitDefEqProofs only [go_sem, hlt]
   rw [hr, List.drop_of_length_le (by omega)]; rfl
theorem sizeOf_c : ∀ a : Fm, a.wt ≤ 1099511627776 → FC Tryz.prog 183 [fmD a] [iD (sizeF a)] :=
 fm_ind fun o a v xs ih hs => sizeOf_of (.mk o a v xs) hs fun x hx => ih x hx (Nat.le_trans (fparts_wt (a := .mk o a v xs) hx) hs)
def mnL (most : Int) : Int → List (Int → Int) → Int
 | n, [] => n
 | n, r :: rs => if n ≤ most then mnL most (n + r (most - n)) rs else n
theorem mnL_spec {α : Type} (f : α → Int → Int) (g : α → Nat) (most : Int) : ∀ (xs : List α) (n : Int), 0 ≤ n → (∀ x ∈ xs, ∀ m, 0 ≤ m → 1 ≤ f x m ∧ f x m ≤ g x ∧ (f x m ≤ m → f x m = g x)) → mnL most n (xs.map f) ≤ n + (xs.map g).sum ∧ n ≤ mnL most n (xs.map f) ∧ (mnL most n (xs.map f) ≤ most → mnL most n (xs.map f) = n + (xs.map g).sum)
 | [], n, _, _ => by simp [mnL]
 | x :: xs, n, hn, h => by
  simp only [List.map_cons, mnL, List.sum_cons]
  split
  ·obtain ⟨h1, h2, h3⟩ := h x (by simp) (most - n) (by omega)
   obtain ⟨k1, k2, k3⟩ := mnL_spec f g most xs (n + f x (most - n)) (by omega) fun y hy => h y (by simp [hy])
   refine ⟨by omega, by omega, fun hh => ?_⟩
   have := k3 hh
   have : f x (most - n) = g x := h3 (by omega)
   omega
  ·refine ⟨by omega, by omega, fun hh => by omega⟩
def manyT : Tm → Int → Int := Tm.fold fun _ _ rs m => mnL m 1 rs
theorem manyT_eq (a : Tm) (m : Int) : manyT a m = mnL m 1 (a.args.map manyT) := congrFun (Tm.fold_eq _ a) m
theorem manyT_spec : ∀ (a : Tm) (m : Int), 0 ≤ m → 1 ≤ manyT a m ∧ manyT a m ≤ a.nodes ∧ (manyT a m ≤ m → manyT a m = a.nodes) := by
 refine tm_ind fun b0 xs ih m hm => ?_
 rw [manyT_eq, Tm.nodes_eq]
 show 1 ≤ mnL m 1 (xs.map manyT) ∧ mnL m 1 (xs.map manyT) ≤ ((1 + (xs.map Tm.nodes).sum : Nat) : Int) ∧ (mnL m 1 (xs.map manyT) ≤ m → mnL m 1 (xs.map manyT) = ((1 + (xs.map Tm.nodes).sum : Nat) : Int))
 obtain ⟨k1, k2, k3⟩ := mnL_spec manyT Tm.nodes m xs 1 (by omega) ih
 refine ⟨k2, by omega, fun h => ?_⟩
 have := k3 h
 omega
theorem manyT_le (a : Tm) (m : Nat) : decide (manyT a m ≤ m) = decide (a.nodes ≤ m) := by
 obtain ⟨h1, h2, h3⟩ := manyT_spec a m (by omega)
 rw [decide_eq_decide]
 exact ⟨fun h => by have := h3 h; omega, fun h => by omega⟩
set_option maxHeartbeats 400000 in
theorem l2Many_of (a : Tm) (hs : a.wt ≤ 1099511627776) (H : ∀ x ∈ a.args, ∀ m : Int, 0 ≤ m → m ≤ 1099511627776 → FC Tryz.prog 252 [tmD x, iD m] [iD (manyT x m)]) (m : Int) (h0 : 0 ≤ m) (h1 : m ≤ 1099511627776) : FC Tryz.prog 252 [tmD a, iD m] [iD (manyT a m)] := by
 have hl : a.args.length ≤ 9223372036854775807 := by rw [Tm.wt_eq] at hs; omega
 have hn := nodes_wt a
 have hN := a.nodes_eq
 simp only [tmD, tmC_eq]
 refine FC_of Tryz.call252 Tryz.func252 rfl (by kernel_rfl) (by simp only [rd, List.map_cons, List.map_nil, List.length_cons, List.length_nil, Tryz.ntmps252]; omega) ?_
 simp -implicitDefEqProofs only [go_sem, Tryz.results252]
 refine loop_rule (fun p : Nat × Int => hd [(1, vI m), (2, .one (.bx 2 0)), (5, vI p.2), (6, vI p.1)] [(2, [.t (.str a.name), .t (tmS a.args)])] []) (fun p => p.1 ≤ a.args.length ∧ manyT a m = mnL m p.2 ((a.args.drop p.1).map manyT) ∧ 1 ≤ p.2 ∧ p.2 + dsum Tm.nodes a.args p.1 ≤ a.nodes) (fun p => a.args.length - p.1) (0, 1) (weak_hd ?_) ?_ ?_
 ·simp -implicitDefEqProofs only [go_sem]
 ·exact ⟨by simp, by rw [manyT_eq]; rfl, by omega, by rw [dsum_zero]; omega⟩
 ·intro ⟨k, n⟩ ⟨hk, hr, h2, h3⟩
  simp only at hk hr h2 h3
  by_cases hlt : k < a.args.length
  ·have hd := dsum_at Tm.nodes a.args k hlt
   rw [List.drop_eq_getElem_cons hlt, List.map_cons, mnL] at hr
   simp -implicitDefEqProofs only [go_sem, getD_at, hlt, tmC_eq]
   refine ⟨fun h => ?_, fun h => ?_⟩
   ·have hle : n ≤ m := by simpa using h
    obtain ⟨s1, s2, s3⟩ := manyT_spec a.args[k] (m - n) (by omega)
    rw [wrap_in (n := m - n) (by omega) (by omega)]
    refine callF (H a.args[k] (List.getElem_mem hlt) (m - n) (by omega) (by omega)) (by simp -implicitDefEqProofs only [go_sem, tmC_eq]) ?_
    simp -implicitDefEqProofs only [go_sem, tmC_eq]
    rw [if_pos hle] at hr
    exact ⟨(k + 1, n + manyT a.args[k] (m - n)), ⟨hlt, hr, by simp only; omega, by simp only; omega⟩, by simp only; omega, weak_hd (by simp -implicitDefEqProofs only [go_sem]; rw [wrap_s (by omega), wrap_in (by omega) (by omega)]; exact ⟨rfl, rfl⟩)⟩
   ·rw [hr, if_neg (by simpa using h)]
  ·simp -implicitDefEqProofs only [go_sem, hlt]
   rw [hr, List.drop_of_length_le (by omega)]; rfl
theorem l2Many_c : ∀ a : Tm, a.wt ≤ 1099511627776 → ∀ m : Int, 0 ≤ m → m ≤ 1099511627776 → FC Tryz.prog 252 [tmD a, iD m] [iD (manyT a m)] :=
 tm_ind fun b0 xs ih hs => l2Many_of (.mk b0 xs) hs fun x hx => ih x hx (Nat.le_trans (args_wt (a := .mk b0 xs) hx) hs)
def manyF : Fm → Int → Int := Fm.fold fun _ _ _ _ rs m => mnL m 1 rs
theorem manyF_eq (a : Fm) (m : Int) : manyF a m = mnL m 1 (a.parts.map manyF) := congrFun (Fm.fold_eq _ a) m
theorem manyF_spec : ∀ (a : Fm) (m : Int), 0 ≤ m → 1 ≤ manyF a m ∧ manyF a m ≤ a.nodes ∧ (manyF a m ≤ m → manyF a m = a.nodes) := by
 refine fm_ind fun b0 b1 b2 xs ih m hm => ?_
 rw [manyF_eq, Fm.nodes_eq]
 show 1 ≤ mnL m 1 (xs.map manyF) ∧ mnL m 1 (xs.map manyF) ≤ ((1 + (xs.map Fm.nodes).sum : Nat) : Int) ∧ (mnL m 1 (xs.map manyF) ≤ m → mnL m 1 (xs.map manyF) = ((1 + (xs.map Fm.nodes).sum : Nat) : Int))
 obtain ⟨k1, k2, k3⟩ := mnL_spec manyF Fm.nodes m xs 1 (by omega) ih
 refine ⟨k2, by omega, fun h => ?_⟩
 have := k3 h
 omega
theorem manyF_le (a : Fm) (m : Nat) : decide (manyF a m ≤ m) = decide (a.nodes ≤ m) := by
 obtain ⟨h1, h2, h3⟩ := manyF_spec a m (by omega)
 rw [decide_eq_decide]
 exact ⟨fun h => by have := h3 h; omega, fun h => by omega⟩
set_option maxHeartbeats 400000 in
theorem l8Many_of (a : Fm) (hs : a.wt ≤ 1099511627776) (H : ∀ x ∈ a.parts, ∀ m : Int, 0 ≤ m → m ≤ 1099511627776 → FC Tryz.prog 143 [fmD x, iD m] [iD (manyF x m)]) (m : Int) (h0 : 0 ≤ m) (h1 : m ≤ 1099511627776) : FC Tryz.prog 143 [fmD a, iD m] [iD (manyF a m)] := by
 have hl : a.parts.length ≤ 9223372036854775807 := by rw [Fm.wt_eq] at hs; omega
 have hn := fnodes_wt a
 have hN := a.nodes_eq
 simp only [fmD, fmC_eq]
 refine FC_of Tryz.call143 Tryz.func143 rfl (by kernel_rfl) (by simp only [rd, List.map_cons, List.map_nil, List.length_cons, List.length_nil, Tryz.ntmps143]; omega) ?_
 simp -implicitDefEqProofs only [go_sem, Tryz.results143]
 refine loop_rule (fun p : Nat × Int => hd [(1, vI m), (2, .one (.bx 2 0)), (5, vI p.2), (6, vI p.1)] [(2, [.t (.int .i64 a.op), .t (.str a.atom.name), .t (tmS a.atom.args), .t (.str a.var), .t (fmS a.parts)])] []) (fun p => p.1 ≤ a.parts.length ∧ manyF a m = mnL m p.2 ((a.parts.drop p.1).map manyF) ∧ 1 ≤ p.2 ∧ p.2 + dsum Fm.nodes a.parts p.1 ≤ a.nodes) (fun p => a.parts.length - p.1) (0, 1) (weak_hd ?_) ?_ ?_
 ·simp -implicitDefEqProofs only [go_sem]
 ·exact ⟨by simp, by rw [manyF_eq]; rfl, by omega, by rw [dsum_zero]; omega⟩
 ·intro ⟨k, n⟩ ⟨hk, hr, h2, h3⟩
  simp only at hk hr h2 h3
  by_cases hlt : k < a.parts.length
  ·have hd := dsum_at Fm.nodes a.parts k hlt
   rw [List.drop_eq_getElem_cons hlt, List.map_cons, mnL] at hr
   simp -implicitDefEqProofs only [go_sem, getD_at, hlt, fmC_eq]
   refine ⟨fun h => ?_, fun h => ?_⟩
   ·have hle : n ≤ m := by simpa using h
    obtain ⟨s1, s2, s3⟩ := manyF_spec a.parts[k] (m - n) (by omega)
    rw [wrap_in (n := m - n) (by omega) (by omega)]
    refine callF (H a.parts[k] (List.getElem_mem hlt) (m - n) (by omega) (by omega)) (by simp -implicitDefEqProofs only [go_sem, fmC_eq]) ?_
    simp -implicitDefEqProofs only [go_sem, fmC_eq]
    rw [if_pos hle] at hr
    exact ⟨(k + 1, n + manyF a.parts[k] (m - n)), ⟨hlt, hr, by simp only; omega, by simp only; omega⟩, by simp only; omega, weak_hd (by simp -implicitDefEqProofs only [go_sem]; rw [wrap_s (by omega), wrap_in (by omega) (by omega)]; exact ⟨rfl, rfl⟩)⟩
   ·rw [hr, if_neg (by simpa using h)]
  ·simp -implicitDefEqProofs only [go_sem, hlt]
   rw [hr, List.drop_of_length_le (by omega)]; rfl
theorem l8Many_c : ∀ a : Fm, a.wt ≤ 1099511627776 → ∀ m : Int, 0 ≤ m → m ≤ 1099511627776 → FC Tryz.prog 143 [fmD a, iD m] [iD (manyF a m)] :=
 fm_ind fun b0 b1 b2 xs ih hs => l8Many_of (.mk b0 b1 b2 xs) hs fun x hx => ih x hx (Nat.le_trans (fparts_wt (a := .mk b0 b1 b2 xs) hx) hs)
end Go.Proofs.YtbccfiillleimaaGreat
