/-
  Terms, formulas and sequents as plain data, and as cells.
  Conditions: none.
-/
import Derived.Test.YtgfjbbbkploonaaSxT
namespace Go.Proofs.Ytgfjbbbkploonaa
set_option linter.unusedSimpArgs false
set_option linter.unusedVariables false
open Go.RowKit
abbrev Str := List UInt8
/-- A term. -/
inductive Tm where
  | mk (name : Str) (args : List Tm)
def Tm.name : Tm → Str | .mk n _ => n
def Tm.args : Tm → List Tm | .mk _ xs => xs
theorem Tm.eta : ∀ a : Tm, Tm.mk a.name a.args = a | .mk _ _ => rfl
mutual
theorem tm_ind {P : Tm → Prop} (h : ∀ n xs, (∀ x ∈ xs, P x) → P (.mk n xs)) : ∀ a, P a
  | .mk n xs => h n xs (tm_inds h xs)
theorem tm_inds {P : Tm → Prop} (h : ∀ n xs, (∀ x ∈ xs, P x) → P (.mk n xs)) : ∀ xs : List Tm, ∀ x ∈ xs, P x
  | [], x, hx => absurd hx (by simp)
  | a :: xs, x, hx => (List.mem_cons.1 hx).elim (fun e => e ▸ tm_ind h a) (tm_inds h xs x)
end
mutual
def Tm.fold {α : Type} (f : Str → List Tm → List α → α) : Tm → α
  | .mk n xs => f n xs (Tm.folds f xs)
def Tm.folds {α : Type} (f : Str → List Tm → List α → α) : List Tm → List α
  | [] => []
  | a :: xs => Tm.fold f a :: Tm.folds f xs
end
theorem Tm.folds_map {α : Type} (f : Str → List Tm → List α → α) (xs : List Tm) : Tm.folds f xs = xs.map (Tm.fold f) := by
  induction xs with
  | nil => rfl
  | cons a xs ih => rw [Tm.folds, ih]; rfl
theorem Tm.fold_eq {α : Type} (f : Str → List Tm → List α → α) (a : Tm) : Tm.fold f a = f a.name a.args (a.args.map (Tm.fold f)) := by
  cases a; rw [Tm.fold, Tm.folds_map]; rfl
/-- A formula. -/
inductive Fm where
  | mk (op : Int) (atom : Tm) (var : Str) (parts : List Fm)
def Fm.op : Fm → Int | .mk o _ _ _ => o
def Fm.atom : Fm → Tm | .mk _ a _ _ => a
def Fm.var : Fm → Str | .mk _ _ v _ => v
def Fm.parts : Fm → List Fm | .mk _ _ _ ps => ps
theorem Fm.eta : ∀ a : Fm, Fm.mk a.op a.atom a.var a.parts = a | .mk _ _ _ _ => rfl
mutual
theorem fm_ind {P : Fm → Prop} (h : ∀ o a v ps, (∀ x ∈ ps, P x) → P (.mk o a v ps)) : ∀ f, P f
  | .mk o a v ps => h o a v ps (fm_inds h ps)
theorem fm_inds {P : Fm → Prop} (h : ∀ o a v ps, (∀ x ∈ ps, P x) → P (.mk o a v ps)) : ∀ xs : List Fm, ∀ x ∈ xs, P x
  | [], x, hx => absurd hx (by simp)
  | a :: xs, x, hx => (List.mem_cons.1 hx).elim (fun e => e ▸ fm_ind h a) (fm_inds h xs x)
end
mutual
def Fm.fold {α : Type} (f : Int → Tm → Str → List Fm → List α → α) : Fm → α
  | .mk o a v ps => f o a v ps (Fm.folds f ps)
def Fm.folds {α : Type} (f : Int → Tm → Str → List Fm → List α → α) : List Fm → List α
  | [] => []
  | a :: xs => Fm.fold f a :: Fm.folds f xs
end
theorem Fm.folds_map {α : Type} (f : Int → Tm → Str → List Fm → List α → α) (xs : List Fm) : Fm.folds f xs = xs.map (Fm.fold f) := by
  induction xs with
  | nil => rfl
  | cons a xs ih => rw [Fm.folds, ih]; rfl
theorem Fm.fold_eq {α : Type} (f : Int → Tm → Str → List Fm → List α → α) (a : Fm) : Fm.fold f a = f a.op a.atom a.var a.parts (a.parts.map (Fm.fold f)) := by
  cases a; rw [Fm.fold, Fm.folds_map]; rfl
/-- A sequent. -/
structure Sq where
  left : List Fm
  right : List Fm

def tmC : Tm → List T := Tm.fold fun n _ rs => [.str n, .sl 2 rs]
theorem tmC_eq (a : Tm) : tmC a = [.str a.name, .sl 2 (a.args.map tmC)] := Tm.fold_eq _ a
def fmC : Fm → List T := Fm.fold fun o a v _ rs => [.int .i64 o, .str a.name, .sl 2 (a.args.map tmC), .str v, .sl 5 rs]
theorem fmC_eq (a : Fm) : fmC a = [.int .i64 a.op, .str a.atom.name, .sl 2 (a.atom.args.map tmC), .str a.var, .sl 5 (a.parts.map fmC)] := Fm.fold_eq _ a
def sqC (s : Sq) : List T := [.sl 5 (s.left.map fmC), .sl 5 (s.right.map fmC)]
theorem sqC_eq (s : Sq) : sqC s = [.sl 5 (s.left.map fmC), .sl 5 (s.right.map fmC)] := rfl
abbrev tmD (a : Tm) : D := .agg (tmC a)
abbrev fmD (a : Fm) : D := .agg (fmC a)
abbrev sqD (a : Sq) : D := .agg (sqC a)
abbrev tmS (xs : List Tm) : T := .sl 2 (xs.map tmC)
abbrev fmS (xs : List Fm) : T := .sl 5 (xs.map fmC)
abbrev iD (n : Int) : D := .one (.int .i64 n)
abbrev bD (b : Bool) : D := .one (.bool b)
abbrev sD (s : Str) : D := .one (.str s)

theorem getD_at {α : Type} (f : α → List T) (xs : List α) (k : Nat) (h : k < xs.length) : (xs.map f).getD k [] = f (xs[k]'h) := by simp [List.getD, h]

/-- How much a term holds. -/
def Tm.wt : Tm → Nat := Tm.fold fun n xs rs => n.length + xs.length + rs.sum
theorem Tm.wt_eq (a : Tm) : a.wt = a.name.length + a.args.length + (a.args.map Tm.wt).sum := Tm.fold_eq _ a
def Fm.wt : Fm → Nat := Fm.fold fun _ a v ps rs => a.wt + v.length + ps.length + rs.sum
theorem Fm.wt_eq (a : Fm) : a.wt = a.atom.wt + a.var.length + a.parts.length + (a.parts.map Fm.wt).sum := Fm.fold_eq _ a
def tmsW (xs : List Tm) : Nat := xs.length + (xs.map Tm.wt).sum
def fmsW (xs : List Fm) : Nat := xs.length + (xs.map Fm.wt).sum
def Sq.wt (s : Sq) : Nat := fmsW s.left + fmsW s.right
theorem Sq.wt_eq (a : Sq) : a.wt = fmsW a.left + fmsW a.right := rfl
/-- What is left. -/
def szR (w : Nat) (left : Int) : Int := if (w : Int) ≤ left then left - w else -1
/-- The sum over the first ones. -/
def psum {α : Type} (f : α → Nat) (xs : List α) (k : Nat) : Nat := ((xs.take k).map f).sum
theorem psum_zero {α : Type} (f : α → Nat) (xs : List α) : psum f xs 0 = 0 := by simp [psum]
theorem psum_succ {α : Type} (f : α → Nat) (xs : List α) (k : Nat) (h : k < xs.length) : psum f xs (k + 1) = psum f xs k + f xs[k] := by
  unfold psum
  rw [List.take_succ_eq_append_getElem h, List.map_append, List.sum_append]; simp
theorem psum_le {α : Type} (f : α → Nat) (xs : List α) (k : Nat) : psum f xs k ≤ (xs.map f).sum := by
  unfold psum
  conv => rhs; rw [← List.take_append_drop k xs, List.map_append, List.sum_append]
  omega
theorem psum_all {α : Type} (f : α → Nat) (xs : List α) (k : Nat) (h : xs.length ≤ k) : psum f xs k = (xs.map f).sum := by
  unfold psum
  rw [List.take_of_length_le h]
theorem mem_sum {α : Type} (f : α → Nat) (xs : List α) : ∀ x ∈ xs, f x ≤ (xs.map f).sum := by
  induction xs with
  | nil => simp
  | cons a xs ih =>
    intro x hx
    rcases List.mem_cons.1 hx with rfl | hx
    · simp
    · have := ih x hx; simp; omega
noncomputable def same {α : Type} (a b : α) : Bool := @decide (a = b) (Classical.propDecidable _)
theorem same_iff {α : Type} {a b : α} : same a b = true ↔ a = b := by simp [same]
theorem same_no {α : Type} {a b : α} : same a b = false ↔ a ≠ b := by simp [same]
theorem same_self {α : Type} (a : α) : same a a = true := by simp [same]
theorem same_cons {α : Type} (a b : α) (xs ys : List α) : same (a :: xs) (b :: ys) = (same a b && same xs ys) := by
  rw [Bool.eq_iff_iff, Bool.and_eq_true, same_iff, same_iff, same_iff, List.cons.injEq]
theorem same_nil {α : Type} : same ([] : List α) [] = true := same_self _
theorem wrap_s {k : Nat} (h : k < 9223372036854775807) : IntKind.i64.wrap ((k : Int) + 1) = ((k + 1 : Nat) : Int) := wrap_succ h
theorem szR_neg {w : Nat} {l : Int} (h0 : 0 ≤ l) (h : szR w l < 0) : l < w := by unfold szR at h; split at h <;> omega
theorem szR_pos {w : Nat} {l : Int} (h : ¬ szR w l < 0) : (w : Int) ≤ l ∧ szR w l = l - w := by
  by_cases hh : (w : Int) ≤ l
  · exact ⟨hh, if_pos hh⟩
  · exact absurd (by rw [szR, if_neg hh]; omega) h
theorem szR_big {w : Nat} {l : Int} (h : l < w) : szR w l = -1 := if_neg (by omega)
theorem szR_ok {w : Nat} {l : Int} (h : (w : Int) ≤ l) : szR w l = l - w := if_pos h
theorem int_eq {k : IntKind} {a b : Int} (h : a = b) : T.int k a = T.int k b := h ▸ rfl
/-- The next element of a slice that is being filled. -/
theorem fill_next (A : List (List T)) (n k : Nat) (z ts : List T) (hA : A.length = k) (hk : k < n) (hz : ts.length = z.length) : setRw (A ++ List.replicate (n - k) z) k 0 ts = A ++ [ts] ++ List.replicate (n - (k + 1)) z := by
  subst hA
  have e : List.replicate (n - A.length) z = z :: List.replicate (n - (A.length + 1)) z := by
    rw [show n - A.length = (n - (A.length + 1)) + 1 by omega]; rfl
  unfold setRw
  rw [e]
  simp [setR_full _ _ hz]
end Go.Proofs.Ytgfjbbbkploonaa
