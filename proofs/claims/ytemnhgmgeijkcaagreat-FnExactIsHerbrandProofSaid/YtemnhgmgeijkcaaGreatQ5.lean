/-
  The walk over plain data, and contracts of functions of the program and of its laws.
  Conditions: those that each theorem names.
-/
import Derived.Test.YtemnhgmgeijkcaaGreatQ4
import Derived.Test.YtemnhgmgeijkcaaGreatProg
import Derived.KernelRfl
import Derived.Test.YtemnhgmgeijkcaaGreatQ1
import Derived.Sort.OwnSorted
import Derived.Sort.KeysCollected
import Derived.Sort.Walk0
import Derived.Laws.AppendOwn
import Derived.Shelf.Sort.Plain
import Derived.Shelf.Slices.In.SortNone
import Derived.Shelf.Slices.CompactS
import Derived.Lib.SliceRun
namespace Go.Proofs.YtemnhgmgeijkcaaGreat
theorem ag_3 : zm0 Tryz.prog 3 = some false := by kernel_rfl
theorem sz_3 : zbf Tryz.prog 3 = some 1 := by kernel_rfl
theorem in_3 : qe9 Tryz.prog 3 = some .i64 := by kernel_rfl
theorem ze_3 : zdf Tryz.prog 3 = some [.t (.int .i64 0)] := by kernel_rfl
theorem bo_4 : zv3 Tryz.prog 4 = true := by kernel_rfl
theorem ag_9 : zm0 Tryz.prog 9 = some false := by kernel_rfl
theorem sz_9 : zbf Tryz.prog 9 = some 1 := by kernel_rfl
theorem st_9 : qar Tryz.prog 9 = true := by kernel_rfl
theorem ze_9 : zdf Tryz.prog 9 = some [.t (.str [])] := by kernel_rfl
theorem ag_22 : zm0 Tryz.prog 22 = some false := by kernel_rfl
theorem sz_22 : zbf Tryz.prog 22 = some 1 := by kernel_rfl
theorem el_22 : elT Tryz.prog 22 = some 24 := by kernel_rfl
theorem ag_24 : zm0 Tryz.prog 24 = some true := by kernel_rfl
theorem sz_24 : zbf Tryz.prog 24 = some 2 := by kernel_rfl
theorem qhz : zi1 Tryz.prog 24 0 = some (0, 9) := by kernel_rfl
theorem qga : zi1 Tryz.prog 24 1 = some (1, 22) := by kernel_rfl
theorem ag_25 : zm0 Tryz.prog 25 = some false := by kernel_rfl
theorem sz_25 : zbf Tryz.prog 25 = some 1 := by kernel_rfl
theorem el_25 : elT Tryz.prog 25 = some 27 := by kernel_rfl
theorem ag_27 : zm0 Tryz.prog 27 = some true := by kernel_rfl
theorem sz_27 : zbf Tryz.prog 27 = some 5 := by kernel_rfl
theorem qh2 : zi1 Tryz.prog 27 0 = some (0, 3) := by kernel_rfl
theorem qhe : zi1 Tryz.prog 27 1 = some (1, 24) := by kernel_rfl
theorem qiv : zi1 Tryz.prog 27 2 = some (3, 9) := by kernel_rfl
theorem qio : zi1 Tryz.prog 27 3 = some (4, 25) := by kernel_rfl
theorem el_28 : elT Tryz.prog 28 = some 22 := by kernel_rfl
theorem nl_31 : nlT Tryz.prog 31 = 2 := by kernel_rfl
theorem ag_31 : zm0 Tryz.prog 31 = some false := by kernel_rfl
theorem sz_31 : zbf Tryz.prog 31 = some 1 := by kernel_rfl
theorem el_31 : elT Tryz.prog 31 = some 33 := by kernel_rfl
theorem zrf : zdd Tryz.prog 33 = some 40 := by kernel_rfl
theorem ze_31 : zdf Tryz.prog 31 = some [.nl 2] := by kernel_rfl
theorem ag_33 : zm0 Tryz.prog 33 = some true := by kernel_rfl
theorem sz_33 : zbf Tryz.prog 33 = some 2 := by kernel_rfl
theorem ze_33 : zdf Tryz.prog 33 = some [.t (.str []), .nl 2] := by kernel_rfl
theorem pl_33 : qfi Tryz.prog 33 = some [(0, 1), (1, 1)] := by kernel_rfl
theorem qh5 : zi1 Tryz.prog 33 0 = some (0, 9) := by kernel_rfl
theorem qhh : zi1 Tryz.prog 33 1 = some (1, 31) := by kernel_rfl
theorem nl_34 : nlT Tryz.prog 34 = 5 := by kernel_rfl
theorem ag_34 : zm0 Tryz.prog 34 = some false := by kernel_rfl
theorem sz_34 : zbf Tryz.prog 34 = some 1 := by kernel_rfl
theorem el_34 : elT Tryz.prog 34 = some 36 := by kernel_rfl
theorem zqy : zdd Tryz.prog 36 = some 88 := by kernel_rfl
theorem ag_36 : zm0 Tryz.prog 36 = some true := by kernel_rfl
theorem sz_36 : zbf Tryz.prog 36 = some 5 := by kernel_rfl
theorem ze_36 : zdf Tryz.prog 36 = some [.t (.int .i64 0), .t (.str []), .nl 2, .t (.str []), .nl 5] := by kernel_rfl
theorem pl_36 : qfi Tryz.prog 36 = some [(0, 1), (1, 2), (3, 1), (4, 1)] := by kernel_rfl
theorem qh0 : zi1 Tryz.prog 36 0 = some (0, 3) := by kernel_rfl
theorem qir : zi1 Tryz.prog 36 1 = some (1, 33) := by kernel_rfl
theorem qid : zi1 Tryz.prog 36 2 = some (3, 9) := by kernel_rfl
theorem qh8 : zi1 Tryz.prog 36 3 = some (4, 34) := by kernel_rfl
theorem nl_40 : nlT Tryz.prog 40 = 1 := by kernel_rfl
theorem el_40 : elT Tryz.prog 40 = some 31 := by kernel_rfl
theorem qcy : zdd Tryz.prog 31 = some 24 := by kernel_rfl
theorem ag_49 : zm0 Tryz.prog 49 = some false := by kernel_rfl
theorem el_49 : elT Tryz.prog 49 = some 3 := by kernel_rfl
theorem nl_100 : nlT Tryz.prog 100 = 1 := by kernel_rfl
theorem qet : elT Tryz.prog 100 = some 9 := by kernel_rfl
theorem zsl : zdd Tryz.prog 9 = some 16 := by kernel_rfl
theorem ag_105 : zm0 Tryz.prog 105 = some false := by kernel_rfl
theorem in_152 : qe9 Tryz.prog 152 = some .u64 := by kernel_rfl
theorem ag_177 : zm0 Tryz.prog 177 = some false := by kernel_rfl
theorem sz_177 : zbf Tryz.prog 177 = some 1 := by kernel_rfl
theorem qew : elT Tryz.prog 177 = some 216 := by kernel_rfl
theorem zj5 : zdd Tryz.prog 216 = some 56 := by kernel_rfl
theorem ag_179 : zm0 Tryz.prog 179 = some true := by kernel_rfl
theorem sz_179 : zbf Tryz.prog 179 = some 1 := by kernel_rfl
theorem ze_179 : zdf Tryz.prog 179 = some [.nl 3] := by kernel_rfl
theorem pl_179 : qfi Tryz.prog 179 = some [(0, 1)] := by kernel_rfl
theorem qck : zi1 Tryz.prog 179 0 = some (0, 177) := by kernel_rfl
theorem qfc : zbf Tryz.prog 216 = some 3 := by kernel_rfl
theorem qep : zdf Tryz.prog 216 = some [.t (.str []), .t (.str []), .nl 2] := by kernel_rfl
theorem pl_216 : qfi Tryz.prog 216 = some [(0, 1), (1, 2)] := by kernel_rfl
theorem qbi : zi1 Tryz.prog 216 0 = some (0, 9) := by kernel_rfl
theorem qds : zi1 Tryz.prog 216 1 = some (1, 33) := by kernel_rfl
theorem ap_31 : apT Tryz.prog 31 2 := zr3 el_31 sz_33 zrf (by decide) ze_33 rfl
theorem ap_34 : apT Tryz.prog 34 5 := zr3 el_34 sz_36 zqy (by decide) ze_36 rfl
theorem ap_100 : apT Tryz.prog 100 1 := zr3 qet sz_9 zsl (by decide) ze_9 rfl
theorem ap_177 : apT Tryz.prog 177 3 := zr3 qew qfc zj5 (by decide) qep rfl
attribute [go_sem] ag_3 sz_3 in_3 ze_3 bo_4 ag_9 sz_9 st_9 ze_9 ag_22 sz_22 el_22 ag_24 sz_24 qhz qga ag_25 sz_25 el_25 ag_27 sz_27 qh2 qhe qiv qio el_28 nl_31 ag_31 sz_31 el_31 zrf ze_31 ag_33 sz_33 ze_33 pl_33 qh5 qhh nl_34 ag_34 sz_34 el_34 zqy ag_36 sz_36 ze_36 pl_36 qh0 qir qid qh8 nl_40 el_40 qcy ag_49 el_49 nl_100 qet zsl ag_105 in_152 ag_177 sz_177 qew zj5 ag_179 sz_179 ze_179 pl_179 qck qfc qep pl_216 qbi qds ap_31 ap_34 ap_100 ap_177
attribute [go_sem] Nat.reduceEqDiff reduceIte reduceCtorEq Nat.reduceAdd Nat.reduceMul Int.reduceLE Int.reduceNeg Int.reduceToNat Nat.reduceLeDiff Nat.reduceSub Nat.reduceLT Nat.le_refl Int.cast_ofNat_Int Int.reduceLT Int.reduceGT Int.reduceGE Int.reduceEq Int.reduceBEq Nat.reduceBEq Int.reduceBNe Int.reduceAdd Int.reduceSub gt_iff_lt ge_iff_le
end Go.Proofs.YtemnhgmgeijkcaaGreat
namespace Go.Proofs.YtemnhgmgeijkcaaGreat
set_option linter.unusedSimpArgs false
set_option linter.unusedVariables false
set_option linter.unusedSectionVars false
set_option maxRecDepth 4000
open Go.RowKit
abbrev Str := List UInt8
inductive Tm where
 | mk (name : Str) (args : List Tm)
def Tm.name : Tm -> Str | .mk n _ => n
def Tm.args : Tm -> List Tm | .mk _ xs => xs
theorem Tm.eta : ∀ a : Tm, Tm.mk a.name a.args = a | .mk _ _ => rfl
mutual
theorem za7 {P : Tm -> Prop} (h : ∀ n xs, (∀ x ∈ xs, P x) -> P (.mk n xs)) : ∀ a, P a
 | .mk n xs => h n xs (zwx h xs)
theorem zwx {P : Tm -> Prop} (h : ∀ n xs, (∀ x ∈ xs, P x) -> P (.mk n xs)) : ∀ xs : List Tm, ∀ x ∈ xs, P x
 | [], x, hx => absurd hx (by simp)
 | a :: xs, x, hx => (List.mem_cons.1 hx).elim (fun e => e ▸ za7 h a) (zwx h xs x)
end
mutual
def Tm.fold {α : Type} (f : Str -> List Tm -> List α -> α) : Tm -> α
 | .mk n xs => f n xs (Tm.folds f xs)
def Tm.folds {α : Type} (f : Str -> List Tm -> List α -> α) : List Tm -> List α
 | [] => []
 | a :: xs => Tm.fold f a :: Tm.folds f xs
end
theorem Tm.folds_map {α : Type} (f : Str -> List Tm -> List α -> α) (xs : List Tm) : Tm.folds f xs = xs.map (Tm.fold f) := by
 induction xs with
 | nil => rfl
 | cons a xs ih => rw [Tm.folds, ih]; rfl
theorem Tm.fold_eq {α : Type} (f : Str -> List Tm -> List α -> α) (a : Tm) : Tm.fold f a = f a.name a.args (a.args.map (Tm.fold f)) := by
 cases a; rw [Tm.fold, Tm.folds_map]; rfl
inductive Fm where
 | mk (op : Int) (atom : Tm) (var : Str) (parts : List Fm)
def Fm.op : Fm -> Int | .mk o _ _ _ => o
def Fm.atom : Fm -> Tm | .mk _ a _ _ => a
def Fm.var : Fm -> Str | .mk _ _ v _ => v
def Fm.parts : Fm -> List Fm | .mk _ _ _ ps => ps
theorem Fm.eta : ∀ a : Fm, Fm.mk a.op a.atom a.var a.parts = a | .mk _ _ _ _ => rfl
mutual
theorem za6 {P : Fm -> Prop} (h : ∀ o a v ps, (∀ x ∈ ps, P x) -> P (.mk o a v ps)) : ∀ f, P f
 | .mk o a v ps => h o a v ps (zyg h ps)
theorem zyg {P : Fm -> Prop} (h : ∀ o a v ps, (∀ x ∈ ps, P x) -> P (.mk o a v ps)) : ∀ xs : List Fm, ∀ x ∈ xs, P x
 | [], x, hx => absurd hx (by simp)
 | a :: xs, x, hx => (List.mem_cons.1 hx).elim (fun e => e ▸ za6 h a) (zyg h xs x)
end
mutual
def Fm.fold {α : Type} (f : Int -> Tm -> Str -> List Fm -> List α -> α) : Fm -> α
 | .mk o a v ps => f o a v ps (Fm.folds f ps)
def Fm.folds {α : Type} (f : Int -> Tm -> Str -> List Fm -> List α -> α) : List Fm -> List α
 | [] => []
 | a :: xs => Fm.fold f a :: Fm.folds f xs
end
theorem Fm.folds_map {α : Type} (f : Int -> Tm -> Str -> List Fm -> List α -> α) (xs : List Fm) : Fm.folds f xs = xs.map (Fm.fold f) := by
 induction xs with
 | nil => rfl
 | cons a xs ih => rw [Fm.folds, ih]; rfl
theorem Fm.fold_eq {α : Type} (f : Int -> Tm -> Str -> List Fm -> List α -> α) (a : Fm) : Fm.fold f a = f a.op a.atom a.var a.parts (a.parts.map (Fm.fold f)) := by
 cases a; rw [Fm.fold, Fm.folds_map]; rfl
def tmC : Tm -> List T := Tm.fold fun n _ rs => [.str n, .sl 2 rs]
theorem zaa (a : Tm) : tmC a = [.str a.name, .sl 2 (a.args.map tmC)] := Tm.fold_eq _ a
def fmC : Fm -> List T := Fm.fold fun o a v _ rs => [.int .i64 o, .str a.name, .sl 2 (a.args.map tmC), .str v, .sl 5 rs]
theorem zab (a : Fm) : fmC a = [.int .i64 a.op, .str a.atom.name, .sl 2 (a.atom.args.map tmC), .str a.var, .sl 5 (a.parts.map fmC)] := Fm.fold_eq _ a
theorem zcq (o : Int) (a : Tm) (v : Str) (ps : List Fm) : fmC (.mk o a v ps) = [.int .i64 o, .str a.name, .sl 2 (a.args.map tmC), .str v, .sl 5 (ps.map fmC)] := zab _
abbrev tmD (a : Tm) : D := .agg (tmC a)
abbrev fmD (a : Fm) : D := .agg (fmC a)
abbrev tmS (xs : List Tm) : T := .sl 2 (xs.map tmC)
abbrev fmS (xs : List Fm) : T := .sl 5 (xs.map fmC)
abbrev iD (n : Int) : D := .one (.int .i64 n)
abbrev bD (b : Bool) : D := .one (.bool b)
abbrev sD (s : Str) : D := .one (.str s)
theorem zag {α : Type} (f : α -> List T) (xs : List α) (k : Nat) (h : k < xs.length) : (xs.map f).getD k [] = f (xs[k]'h) := by simp [List.getD, h]
def Tm.wt : Tm -> Nat := Tm.fold fun n xs rs => n.length + xs.length + rs.sum
theorem Tm.wt_eq (a : Tm) : a.wt = a.name.length + a.args.length + (a.args.map Tm.wt).sum := Tm.fold_eq _ a
def Fm.wt : Fm -> Nat := Fm.fold fun _ a v ps rs => a.wt + v.length + ps.length + rs.sum
theorem Fm.wt_eq (a : Fm) : a.wt = a.atom.wt + a.var.length + a.parts.length + (a.parts.map Fm.wt).sum := Fm.fold_eq _ a
def zfp (xs : List Tm) : Nat := xs.length + (xs.map Tm.wt).sum
def zws (xs : List Fm) : Nat := xs.length + (xs.map Fm.wt).sum
def szR (w : Nat) (left : Int) : Int := if (w : Int) <= left then left - w else -1
def zl2 {α : Type} (f : α -> Nat) (xs : List α) (k : Nat) : Nat := ((xs.take k).map f).sum
theorem zdv {α : Type} (f : α -> Nat) (xs : List α) : zl2 f xs 0 = 0 := by simp [zl2]
theorem zin {α : Type} (f : α -> Nat) (xs : List α) (k : Nat) (h : k < xs.length) : zl2 f xs (k + 1) = zl2 f xs k + f xs[k] := by
 unfold zl2
 rw [List.take_succ_eq_append_getElem h, List.map_append, List.sum_append]; simp
theorem zor {α : Type} (f : α -> Nat) (xs : List α) (k : Nat) : zl2 f xs k <= (xs.map f).sum := by
 unfold zl2
 conv => rhs; rw [<- List.take_append_drop k xs, List.map_append, List.sum_append]
 omega
theorem zk0 {α : Type} (f : α -> Nat) (xs : List α) (k : Nat) (h : xs.length <= k) : zl2 f xs k = (xs.map f).sum := by
 unfold zl2
 rw [List.take_of_length_le h]
theorem zbe {α : Type} (f : α -> Nat) (xs : List α) : ∀ x ∈ xs, f x <= (xs.map f).sum := by
 induction xs with
 | nil => simp
 | cons a xs ih =>
  intro x hx
  rcases List.mem_cons.1 hx with rfl | hx
  ·simp
  ·have := ih x hx; simp; omega
noncomputable def same {α : Type} (a b : α) : Bool := @decide (a = b) (Classical.propDecidable _)
theorem zcf {α : Type} {a b : α} : same a b = true ↔ a = b := by simp [same]
theorem zcr {α : Type} {a b : α} : same a b = false ↔ a ≠ b := by simp [same]
theorem zbw {α : Type} (a : α) : same a a = true := by simp [same]
theorem zcz {α : Type} (a b : α) (xs ys : List α) : same (a :: xs) (b :: ys) = (same a b && same xs ys) := by
 rw [Bool.eq_iff_iff, Bool.and_eq_true, zcf, zcf, zcf, List.cons.injEq]
theorem zfq {α : Type} : same ([] : List α) [] = true := zbw _
theorem zao {k : Nat} (h : k < 9223372036854775807) : IntKind.i64.wrap ((k : Int) + 1) = ((k + 1 : Nat) : Int) := zwb h
theorem zgj {w : Nat} {l : Int} (h0 : 0 <= l) (h : szR w l < 0) : l < w := by unfold szR at h; split at h <;> omega
theorem zem {w : Nat} {l : Int} (h : ¬ szR w l < 0) : (w : Int) <= l /\ szR w l = l - w := by
 by_cases hh : (w : Int) <= l
 ·exact ⟨hh, if_pos hh⟩
 ·exact absurd (by rw [szR, if_neg hh]; omega) h
theorem zdh {w : Nat} {l : Int} (h : l < w) : szR w l = -1 := if_neg (by omega)
theorem zm3 {w : Nat} {l : Int} (h : (w : Int) <= l) : szR w l = l - w := if_pos h
theorem zvb {k : IntKind} {a b : Int} (h : a = b) : T.int k a = T.int k b := h ▸ rfl
theorem zf8 (A : List (List T)) (n k : Nat) (z ts : List T) (hA : A.length = k) (hk : k < n) (hz : ts.length = z.length) : zej (A ++ List.replicate (n - k) z) k 0 ts = A ++ [ts] ++ List.replicate (n - (k + 1)) z := by
 subst hA
 have e : List.replicate (n - A.length) z = z :: List.replicate (n - (A.length + 1)) z := by
  rw [show n - A.length = (n - (A.length + 1)) + 1 by omega]; rfl
 unfold zej
 rw [e]
 simp [zxt _ _ hz]
end Go.Proofs.YtemnhgmgeijkcaaGreat
namespace Go.Proofs.YtemnhgmgeijkcaaGreat
set_option linter.unusedSimpArgs false
set_option linter.unusedVariables false
set_option linter.unusedSectionVars false
set_option maxRecDepth 4000
open Go.RowKit
theorem zc6.cons {P : Program} {t : TypeId} {ts : List TypeId} {xs : List PD} (h : zc6 P (t :: ts) xs) : ∃ x xs', xs = x :: xs' /\ zbh P t x /\ zc6 P ts xs' := by
 cases xs with
 | nil => rw [zc6] at h; cases h
 | cons x xs =>
  rw [zc6] at h
  obtain ⟨t', ts', e, h1, h2⟩ := h
  cases e
  exact ⟨x, xs, rfl, h1, h2⟩
theorem zc6.nil {P : Program} {xs : List PD} (h : zc6 P [] xs) : xs = [] := by
 cases xs with
 | nil => rfl
 | cons x xs =>
  rw [zc6] at h
  obtain ⟨t', ts', e, _⟩ := h
  cases e
theorem zn0 {Q : PD -> Prop} (h : ∀ d, (∀ d', SizeOf.sizeOf d' < SizeOf.sizeOf d -> Q d') -> Q d) (d : PD) : Q d := by
 have : ∀ n (d : PD), SizeOf.sizeOf d < n -> Q d := by
  intro n
  induction n with
  | zero => intro d hd; omega
  | succ n ih => intro d hd; exact h d fun d' hd' => ih d' (by omega)
 exact this _ d (Nat.lt_succ_self _)
theorem zd1 {α : Type} (c : α -> List T) : ∀ (xs : List PD), (∀ x ∈ xs, ∃ a, x.cells = c a) -> ∃ l : List α, PD.rows xs = l.map c
 | [], _ => ⟨[], rfl⟩
 | x :: xs, h => by
  obtain ⟨a, ha⟩ := h x (by simp)
  obtain ⟨l, hl⟩ := zd1 c xs fun y hy => h y (by simp [hy])
  exact ⟨a :: l, by rw [PD.rows, ha, hl]; rfl⟩
theorem zxa : ∀ d, zbh Tryz.prog 24 d -> ∃ a : Tm, d.cells = tmC a :=
 zn0 fun d ih h => by
  obtain ⟨fs, rfl, hf⟩ := h.st Tryz.underlying24
  have hf : zc6 Tryz.prog [9, 22] fs := hf
  obtain ⟨x1, r1, rfl, h1, hf⟩ := hf.cons
  obtain ⟨x2, r2, rfl, h2, hf⟩ := hf.cons
  obtain rfl := hf.nil
  obtain ⟨n, rfl⟩ := h1.str Tryz.underlying9
  obtain ⟨xs, rfl, hx⟩ := h2.sl Tryz.underlying22
  obtain ⟨l, hl⟩ := zd1 tmC xs fun x hx' => ih x (by have := List.sizeOf_lt_of_mem hx'; simp; omega) (hx x hx')
  exact ⟨.mk n l, by
   rw [zaa, PD.cells, PD.flat, PD.flat, PD.flat, PD.cells, PD.cells, hl, show Tryz.prog.cellsOf 24 = 2 from by kernel_rfl]; rfl⟩
theorem qay {d : PD} (h : zbh Tryz.prog 22 d) : ∃ l : List Tm, d.cells = [tmS l] := by
 obtain ⟨xs, rfl, hx⟩ := h.sl Tryz.underlying22
 obtain ⟨l, hl⟩ := zd1 tmC xs fun x hx' => zxa x (hx x hx')
 exact ⟨l, by rw [PD.cells, hl, show Tryz.prog.cellsOf 24 = 2 from by kernel_rfl]⟩
theorem zug : ∀ d, zbh Tryz.prog 27 d -> ∃ a : Fm, d.cells = fmC a :=
 zn0 fun d ih h => by
  obtain ⟨fs, rfl, hf⟩ := h.st Tryz.underlying27
  have hf : zc6 Tryz.prog [3, 24, 9, 25] fs := hf
  obtain ⟨x1, r1, rfl, h1, hf⟩ := hf.cons
  obtain ⟨x2, r2, rfl, h2, hf⟩ := hf.cons
  obtain ⟨x3, r3, rfl, h3, hf⟩ := hf.cons
  obtain ⟨x4, r4, rfl, h4, hf⟩ := hf.cons
  obtain rfl := hf.nil
  obtain ⟨o, rfl⟩ := h1.int Tryz.underlying3
  obtain ⟨a, ha⟩ := zxa _ h2
  obtain ⟨v, rfl⟩ := h3.str Tryz.underlying9
  obtain ⟨xs, rfl, hx⟩ := h4.sl Tryz.underlying25
  obtain ⟨l, hl⟩ := zd1 fmC xs fun x hx' => ih x (by have := List.sizeOf_lt_of_mem hx'; simp; omega) (hx x hx')
  exact ⟨.mk o a v l, by
   rw [zab, PD.cells, PD.flat, PD.flat, PD.flat, PD.flat, PD.flat, PD.cells, PD.cells, PD.cells, hl, ha, zaa, show Tryz.prog.cellsOf 27 = 5 from by kernel_rfl]; rfl⟩
end Go.Proofs.YtemnhgmgeijkcaaGreat
namespace Go.Proofs.YtemnhgmgeijkcaaGreat
set_option linter.unusedSimpArgs false
set_option linter.unusedVariables false
set_option linter.unusedSectionVars false
set_option maxRecDepth 4000
open Go.RowKit
set_option maxHeartbeats 400000 in
theorem zjv (xs : List Tm) (H : ∀ x ∈ xs, ∀ l : Int, 0 <= l -> l <= 1048576 -> FC Tryz.prog 57 [tmD x, iD l] [iD (szR x.wt l)]) (l : Int) (h0 : 0 <= l) (h1 : l <= 1048576) :
  FC Tryz.prog 59 [.one (tmS xs), iD l] [iD (szR (zfp xs) l)] := by
 refine zc0 (fun hw => ?_) Tryz.call59
 have hl : xs.length <= 9223372036854775807 := by simpa [zfj, wfT] using hw.1.1
 refine zah Tryz.call59 Tryz.func59 rfl (by kernel_rfl) (zat (by kernel_rfl)) ?_
 simp -implicitDefEqProofs only [go_sem, Tryz.results59]
 rw [zbk (by omega) (by omega)]
 have hW : zfp xs = xs.length + (xs.map Tm.wt).sum := rfl
 refine ⟨fun h => ?_, fun h => ?_⟩
 ·rw [zdh (by simp at h; omega)]
 ·have hlen : (xs.length : Int) <= l := by simp at h; omega
  refine zae (fun k : Nat => hd [(0, vT (tmS xs)), (1, vI (l - xs.length - zl2 Tm.wt xs k)), (5, vI k)] [] []) (fun k => k <= xs.length /\ 0 <= l - xs.length - zl2 Tm.wt xs k) (fun k => xs.length - k) 0 (zac ?_) ?_ ?_
  ·simp -implicitDefEqProofs only [go_sem]
   simp [zdv]
  ·simpa [zdv] using hlen
  ·intro k ⟨hk, hp⟩
   by_cases hlt : k < xs.length
   ·have hs := zin Tm.wt xs k hlt
    have hs2 := zor Tm.wt xs (k + 1)
    simp -implicitDefEqProofs only [go_sem, List.length_map, zag, hlt, zaa]
    refine callF (H xs[k] (List.getElem_mem hlt) (l - xs.length - zl2 Tm.wt xs k) hp (by omega)) (by simp -implicitDefEqProofs only [go_sem, zaa]) ?_
    simp -implicitDefEqProofs only [go_sem, zaa]
    refine ⟨fun h => ?_, fun h => ?_⟩
    ·have := zgj hp (by simpa using h)
     rw [zdh (by omega)]
    ·obtain ⟨h2, h3⟩ := zem (by simpa using h)
     rw [zao (by omega)]
     exact ⟨k + 1, ⟨hlt, by omega⟩, by omega, zac (by simp -implicitDefEqProofs only [go_sem]; rw [h3]; congr 1; omega)⟩
   ·simp -implicitDefEqProofs only [go_sem, List.length_map, hlt]
    have hall := zk0 Tm.wt xs k (by omega)
    rw [hall, zm3 (by omega)]; congr 1; omega
set_option maxHeartbeats 400000 in
theorem zjw (xs : List Tm) (H : ∀ x ∈ xs, FC Tryz.prog 61 [tmD x] [tmD x]) (hs : xs.length <= 1048576) :
  FC Tryz.prog 63 [.one (tmS xs)] [.one (tmS xs)] := by
 refine zc0 (fun hw => ?_) Tryz.call63
 refine zah Tryz.call63 Tryz.func63 rfl (by kernel_rfl) (zat (by kernel_rfl)) ?_
 simp -implicitDefEqProofs only [go_sem, Tryz.results63]
 refine qb1 (by simp -implicitDefEqProofs only [go_sem]; omega) ?_
 simp -implicitDefEqProofs only [go_sem]
 refine zae (fun k : Nat => hd [(0, vT (tmS xs)), (3, .one (.ow 224 0)), (4, vI k)] [] [(224, ⟨true, 2, (xs.take k).map tmC ++ List.replicate (xs.length - k) [T.str [], T.sl 2 []], 0, true⟩)]) (fun k => k <= xs.length) (fun k => xs.length - k) 0 (zac ?_) ?_ ?_
 ·simp -implicitDefEqProofs only [go_sem]
  simp
 ·simp
 ·intro k hk
  by_cases hlt : k < xs.length
  ·have hlen : ((xs.take k).map tmC ++ List.replicate (xs.length - k) [T.str [], T.sl 2 []]).length = xs.length := by simp; omega
   have hlt2 : k < k + (xs.length - k) := by omega
   simp -implicitDefEqProofs only [go_sem, List.length_map, zag, hlt, zaa]
   refine callF (H xs[k] (List.getElem_mem hlt)) (by simp -implicitDefEqProofs only [go_sem, zaa, hlen, hlt, List.length_append, List.length_map, List.length_take, List.length_replicate, Nat.min_eq_left hk, hlt2]) ?_
   simp -implicitDefEqProofs only [go_sem, zaa, hlen, hlt, List.length_append, List.length_map, List.length_take, List.length_replicate, Nat.min_eq_left hk, hlt2]
   refine zqr (by simp -implicitDefEqProofs only [go_sem]; simp) ?_
   simp -implicitDefEqProofs only [go_sem]
   rw [zao (by omega)]
   refine ⟨k + 1, by omega, by omega, zac ?_⟩
   simp -implicitDefEqProofs only [go_sem]
   have hf := zf8 ((xs.take k).map tmC) xs.length k [T.str [], T.sl 2 []] (tmC xs[k]) (by simp; omega) hlt (by simp [zaa])
   simp only [zaa] at hf
   rw [hf, List.take_succ_eq_append_getElem hlt, List.map_append, List.map_singleton]
   simp only [zaa]
  ·simp -implicitDefEqProofs only [go_sem, List.length_map, hlt]
   simp [List.take_of_length_le (show xs.length <= k by omega), show xs.length - k = 0 by omega]
set_option maxHeartbeats 400000 in
theorem zj2 (xs ys : List Tm) (H : ∀ x ∈ xs, ∀ y, FC Tryz.prog 72 [tmD x, tmD y] [bD (same x y)]) :
  FC Tryz.prog 74 [.one (tmS xs), .one (tmS ys)] [bD (same xs ys)] := by
 refine zc0 (fun hw => ?_) Tryz.call74
 have hl : xs.length <= 9223372036854775807 := by simpa [zfj, wfT] using hw.1.1
 have hl2 : ys.length <= 9223372036854775807 := by simpa [zfj, wfT] using hw.2.1.1
 refine zah Tryz.call74 Tryz.func74 rfl (by kernel_rfl) (zat (by kernel_rfl)) ?_
 simp -implicitDefEqProofs only [go_sem, Tryz.results74]
 refine ⟨fun h => ?_, fun h => ?_⟩
 ·rw [zcr.2 (by rintro rfl; simp at h)]
 ·have hlen : xs.length = ys.length := by simp at h; omega
  refine zae (fun k : Nat => hd [(0, vT (tmS xs)), (1, vT (tmS ys)), (4, vB false), (5, vI k)] [] []) (fun k => k <= xs.length /\ same xs ys = same (xs.drop k) (ys.drop k)) (fun k => xs.length - k) 0 (zac ?_) ?_ ?_
  ·simp -implicitDefEqProofs only [go_sem]
  ·simp
  ·intro k ⟨hk, hr⟩
   by_cases hlt : k < xs.length
   ·have hk2 : k < ys.length := by omega
    simp -implicitDefEqProofs only [go_sem, List.length_map, hlt]
    refine drawn (by kernel_rfl) ?_
    simp -implicitDefEqProofs only [go_sem, List.length_map, zag, hlt, hk2, zaa]
    refine zaz (H xs[k] (List.getElem_mem hlt) ys[k]) (by simp -implicitDefEqProofs only [go_sem, zaa]) ?_
    simp -implicitDefEqProofs only [go_sem, zaa]
    refine ⟨by kernel_rfl, fun h => ?_, fun h => ?_⟩
    ·rw [hr, List.drop_eq_getElem_cons hlt, List.drop_eq_getElem_cons hk2, zcz, show same xs[k] ys[k] = false by simpa using h]; rfl
    ·rw [List.drop_eq_getElem_cons hlt, List.drop_eq_getElem_cons hk2, zcz, show same xs[k] ys[k] = true by simpa using h, Bool.true_and] at hr
     rw [zao (by omega)]
     exact ⟨k + 1, ⟨by omega, hr⟩, by omega, zac (by simp -implicitDefEqProofs only [go_sem])⟩
   ·simp -implicitDefEqProofs only [go_sem, List.length_map, hlt]
    rw [hr, List.drop_of_length_le (by omega), List.drop_of_length_le (by omega), zfq]
set_option maxHeartbeats 400000 in
theorem zz5 (a : Tm) (H : ∀ l : Int, 0 <= l -> l <= 1048576 -> FC Tryz.prog 59 [.one (tmS a.args), iD l] [iD (szR (zfp a.args) l)]) (l : Int) (h0 : 0 <= l) (h1 : l <= 1048576) :
  FC Tryz.prog 57 [tmD a, iD l] [iD (szR a.wt l)] := by
 refine zc0 (fun hw => ?_) Tryz.call57
 simp only [tmD, zaa] at hw ⊢
 have hW := a.wt_eq
 have hls : a.name.length <= 9223372036854775807 /\ True := by simp [zfj, wfT, zol] at hw; simp [hw]
 refine zah Tryz.call57 Tryz.func57 rfl (by kernel_rfl) (zat (by kernel_rfl)) ?_
 simp -implicitDefEqProofs only [go_sem, Tryz.results57]
 rw [zbk (by omega) (by omega)]
 refine ⟨fun h1 => ?_, fun h1 => ?_⟩
 ·rw [zdh (by simp at h1; have hu0 : zfp a.args = a.args.length + (a.args.map Tm.wt).sum := rfl;  omega)]
 have k1 : (a.name.length : Int) <= l := by simp at h1; omega
 refine callF (H (l - (a.name.length : Int)) (by omega) (by omega)) (by simp -implicitDefEqProofs only [go_sem, zaa]) ?_
 simp -implicitDefEqProofs only [go_sem, zaa]
 refine ⟨fun h2 => ?_, fun h2 => ?_⟩
 ·have := zgj (by omega) (show szR (zfp a.args) (l - (a.name.length : Int)) < 0 by simpa using h2)
  rw [zdh (by have hu0 : zfp a.args = a.args.length + (a.args.map Tm.wt).sum := rfl;  omega)]
 obtain ⟨k2, j2⟩ := zem (show ¬ szR (zfp a.args) (l - (a.name.length : Int)) < 0 by simpa using h2)
 rw [show szR a.wt l = l - a.wt from zm3 (by have hu0 : zfp a.args = a.args.length + (a.args.map Tm.wt).sum := rfl;  omega)]; exact zvb (by have hu0 : zfp a.args = a.args.length + (a.args.map Tm.wt).sum := rfl;  omega)
set_option maxHeartbeats 400000 in
theorem qag (a : Tm) (H : FC Tryz.prog 63 [.one (tmS a.args)] [.one (tmS a.args)]) (hs : a.wt <= 1048576) : FC Tryz.prog 61 [tmD a] [tmD a] := by
 have hW := a.wt_eq
 simp only [tmD, zaa]
 refine zah Tryz.call61 Tryz.func61 rfl (by kernel_rfl) (zat (by kernel_rfl)) ?_
 simp -implicitDefEqProofs only [go_sem, Tryz.results61]
 refine callF (H) (by simp -implicitDefEqProofs only [go_sem, zaa]) ?_
 simp -implicitDefEqProofs only [go_sem, zaa]
set_option maxHeartbeats 400000 in
theorem zvt (a b : Tm) (H : FC Tryz.prog 74 [.one (tmS a.args), .one (tmS b.args)] [bD (same a.args b.args)]) : FC Tryz.prog 72 [tmD a, tmD b] [bD (same a b)] := by
 simp only [tmD, zaa]
 refine zah Tryz.call72 Tryz.func72 rfl (by kernel_rfl) (zat (by kernel_rfl)) ?_
 simp -implicitDefEqProofs only [go_sem, Tryz.results72]
 refine ⟨fun h1 => ?_, fun h1 => ?_⟩
 ·rw [zcr.2 (by rintro rfl; simp [zbw] at h1)]
 refine callF (H) (by simp -implicitDefEqProofs only [go_sem, zaa]) ?_
 simp -implicitDefEqProofs only [go_sem, zaa]
 refine ⟨fun h2 => ?_, fun h2 => ?_⟩
 ·rw [zcr.2 (by rintro rfl; simp [zbw] at h2)]
 rw [zcf.2 (by cases a; cases b; simp [zcf, Tm.name, Tm.args] at h1 h2 ⊢; simp [h1, h2])]
theorem zru : ∀ a : Tm, ∀ l : Int, 0 <= l -> l <= 1048576 -> FC Tryz.prog 57 [tmD a, iD l] [iD (szR a.wt l)] :=
 za7 fun b0 xs ih l h0 h1 => zz5 (.mk b0 xs) (fun l h0 h1 => zjv xs ih l h0 h1) l h0 h1
theorem qal (xs : List Tm) (l : Int) (h0 : 0 <= l) (h1 : l <= 1048576) : FC Tryz.prog 59 [.one (tmS xs), iD l] [iD (szR (zfp xs) l)] := zjv xs (fun x _ => zru x) l h0 h1
theorem zsc : ∀ a : Tm, a.wt <= 1048576 -> FC Tryz.prog 61 [tmD a] [tmD a] := by
 refine za7 fun b0 xs ih hs => ?_
 have hW := Tm.wt_eq (.mk b0 xs)
 simp only [Tm.name, Tm.args] at hW
 refine qag _ (zjw xs (fun x hx => ih x hx ?_) (by omega)) hs
 have := zbe Tm.wt xs x hx
 omega
theorem zyl (xs : List Tm) (hs : zfp xs <= 1048576) : FC Tryz.prog 63 [.one (tmS xs)] [.one (tmS xs)] :=
 zjw xs (fun x hx => zsc x (by have := zbe Tm.wt xs x hx; unfold zfp at hs; omega)) (by unfold zfp at hs; omega)
theorem zql : ∀ a b : Tm, FC Tryz.prog 72 [tmD a, tmD b] [bD (same a b)] :=
 za7 fun b0 xs ih b => zvt (.mk b0 xs) b (zj2 xs b.args ih)
theorem zwm (xs ys : List Tm) : FC Tryz.prog 74 [.one (tmS xs), .one (tmS ys)] [bD (same xs ys)] := zj2 xs ys fun x _ => zql x
end Go.Proofs.YtemnhgmgeijkcaaGreat
namespace Go.Proofs.YtemnhgmgeijkcaaGreat
set_option linter.unusedSimpArgs false
set_option linter.unusedVariables false
set_option linter.unusedSectionVars false
set_option maxRecDepth 4000
open Go.RowKit
set_option maxHeartbeats 400000 in
theorem zky (xs : List Fm) (H : ∀ x ∈ xs, ∀ l : Int, 0 <= l -> l <= 1048576 -> FC Tryz.prog 12 [fmD x, iD l] [iD (szR x.wt l)]) (l : Int) (h0 : 0 <= l) (h1 : l <= 1048576) :
  FC Tryz.prog 58 [.one (fmS xs), iD l] [iD (szR (zws xs) l)] := by
 refine zc0 (fun hw => ?_) Tryz.call58
 have hl : xs.length <= 9223372036854775807 := by simpa [zfj, wfT] using hw.1.1
 refine zah Tryz.call58 Tryz.func58 rfl (by kernel_rfl) (zat (by kernel_rfl)) ?_
 simp -implicitDefEqProofs only [go_sem, Tryz.results58]
 rw [zbk (by omega) (by omega)]
 have hW : zws xs = xs.length + (xs.map Fm.wt).sum := rfl
 refine ⟨fun h => ?_, fun h => ?_⟩
 ·rw [zdh (by simp at h; omega)]
 ·have hlen : (xs.length : Int) <= l := by simp at h; omega
  refine zae (fun k : Nat => hd [(0, vT (fmS xs)), (1, vI (l - xs.length - zl2 Fm.wt xs k)), (5, vI k)] [] []) (fun k => k <= xs.length /\ 0 <= l - xs.length - zl2 Fm.wt xs k) (fun k => xs.length - k) 0 (zac ?_) ?_ ?_
  ·simp -implicitDefEqProofs only [go_sem]
   simp [zdv]
  ·simpa [zdv] using hlen
  ·intro k ⟨hk, hp⟩
   by_cases hlt : k < xs.length
   ·have hs := zin Fm.wt xs k hlt
    have hs2 := zor Fm.wt xs (k + 1)
    simp -implicitDefEqProofs only [go_sem, List.length_map, zag, hlt, zab, zaa]
    refine callF (H xs[k] (List.getElem_mem hlt) (l - xs.length - zl2 Fm.wt xs k) hp (by omega)) (by simp -implicitDefEqProofs only [go_sem, zab, zaa]) ?_
    simp -implicitDefEqProofs only [go_sem, zab, zaa]
    refine ⟨fun h => ?_, fun h => ?_⟩
    ·have := zgj hp (by simpa using h)
     rw [zdh (by omega)]
    ·obtain ⟨h2, h3⟩ := zem (by simpa using h)
     rw [zao (by omega)]
     exact ⟨k + 1, ⟨hlt, by omega⟩, by omega, zac (by simp -implicitDefEqProofs only [go_sem]; rw [h3]; congr 1; omega)⟩
   ·simp -implicitDefEqProofs only [go_sem, List.length_map, hlt]
    have hall := zk0 Fm.wt xs k (by omega)
    rw [hall, zm3 (by omega)]; congr 1; omega
set_option maxHeartbeats 400000 in
theorem zkf (xs : List Fm) (H : ∀ x ∈ xs, FC Tryz.prog 15 [fmD x] [fmD x]) (hs : xs.length <= 1048576) :
  FC Tryz.prog 62 [.one (fmS xs)] [.one (fmS xs)] := by
 refine zc0 (fun hw => ?_) Tryz.call62
 refine zah Tryz.call62 Tryz.func62 rfl (by kernel_rfl) (zat (by kernel_rfl)) ?_
 simp -implicitDefEqProofs only [go_sem, Tryz.results62]
 refine qb1 (by simp -implicitDefEqProofs only [go_sem]; omega) ?_
 simp -implicitDefEqProofs only [go_sem]
 refine zae (fun k : Nat => hd [(0, vT (fmS xs)), (3, .one (.ow 224 0)), (4, vI k)] [] [(224, ⟨true, 5, (xs.take k).map fmC ++ List.replicate (xs.length - k) [T.int .i64 0, T.str [], T.sl 2 [], T.str [], T.sl 5 []], 0, true⟩)]) (fun k => k <= xs.length) (fun k => xs.length - k) 0 (zac ?_) ?_ ?_
 ·simp -implicitDefEqProofs only [go_sem]
  simp
 ·simp
 ·intro k hk
  by_cases hlt : k < xs.length
  ·have hlen : ((xs.take k).map fmC ++ List.replicate (xs.length - k) [T.int .i64 0, T.str [], T.sl 2 [], T.str [], T.sl 5 []]).length = xs.length := by simp; omega
   have hlt2 : k < k + (xs.length - k) := by omega
   simp -implicitDefEqProofs only [go_sem, List.length_map, zag, hlt, zab, zaa]
   refine callF (H xs[k] (List.getElem_mem hlt)) (by simp -implicitDefEqProofs only [go_sem, zab, zaa, hlen, hlt, List.length_append, List.length_map, List.length_take, List.length_replicate, Nat.min_eq_left hk, hlt2]) ?_
   simp -implicitDefEqProofs only [go_sem, zab, zaa, hlen, hlt, List.length_append, List.length_map, List.length_take, List.length_replicate, Nat.min_eq_left hk, hlt2]
   refine zqr (by simp -implicitDefEqProofs only [go_sem]; simp) ?_
   simp -implicitDefEqProofs only [go_sem]
   rw [zao (by omega)]
   refine ⟨k + 1, by omega, by omega, zac ?_⟩
   simp -implicitDefEqProofs only [go_sem]
   have hf := zf8 ((xs.take k).map fmC) xs.length k [T.int .i64 0, T.str [], T.sl 2 [], T.str [], T.sl 5 []] (fmC xs[k]) (by simp; omega) hlt (by simp [zab, zaa])
   simp only [zab, zaa] at hf
   rw [hf, List.take_succ_eq_append_getElem hlt, List.map_append, List.map_singleton]
   simp only [zab, zaa]
  ·simp -implicitDefEqProofs only [go_sem, List.length_map, hlt]
   simp [List.take_of_length_le (show xs.length <= k by omega), show xs.length - k = 0 by omega]
set_option maxHeartbeats 400000 in
theorem zlw (xs ys : List Fm) (H : ∀ x ∈ xs, ∀ y, FC Tryz.prog 18 [fmD x, fmD y] [bD (same x y)]) :
  FC Tryz.prog 73 [.one (fmS xs), .one (fmS ys)] [bD (same xs ys)] := by
 refine zc0 (fun hw => ?_) Tryz.call73
 have hl : xs.length <= 9223372036854775807 := by simpa [zfj, wfT] using hw.1.1
 have hl2 : ys.length <= 9223372036854775807 := by simpa [zfj, wfT] using hw.2.1.1
 refine zah Tryz.call73 Tryz.func73 rfl (by kernel_rfl) (zat (by kernel_rfl)) ?_
 simp -implicitDefEqProofs only [go_sem, Tryz.results73]
 refine ⟨fun h => ?_, fun h => ?_⟩
 ·rw [zcr.2 (by rintro rfl; simp at h)]
 ·have hlen : xs.length = ys.length := by simp at h; omega
  refine zae (fun k : Nat => hd [(0, vT (fmS xs)), (1, vT (fmS ys)), (4, vB false), (5, vI k)] [] []) (fun k => k <= xs.length /\ same xs ys = same (xs.drop k) (ys.drop k)) (fun k => xs.length - k) 0 (zac ?_) ?_ ?_
  ·simp -implicitDefEqProofs only [go_sem]
  ·simp
  ·intro k ⟨hk, hr⟩
   by_cases hlt : k < xs.length
   ·have hk2 : k < ys.length := by omega
    simp -implicitDefEqProofs only [go_sem, List.length_map, hlt]
    refine drawn (by kernel_rfl) ?_
    simp -implicitDefEqProofs only [go_sem, List.length_map, zag, hlt, hk2, zab, zaa]
    refine zaz (H xs[k] (List.getElem_mem hlt) ys[k]) (by simp -implicitDefEqProofs only [go_sem, zab, zaa]) ?_
    simp -implicitDefEqProofs only [go_sem, zab, zaa]
    refine ⟨by kernel_rfl, fun h => ?_, fun h => ?_⟩
    ·rw [hr, List.drop_eq_getElem_cons hlt, List.drop_eq_getElem_cons hk2, zcz, show same xs[k] ys[k] = false by simpa using h]; rfl
    ·rw [List.drop_eq_getElem_cons hlt, List.drop_eq_getElem_cons hk2, zcz, show same xs[k] ys[k] = true by simpa using h, Bool.true_and] at hr
     rw [zao (by omega)]
     exact ⟨k + 1, ⟨by omega, hr⟩, by omega, zac (by simp -implicitDefEqProofs only [go_sem])⟩
   ·simp -implicitDefEqProofs only [go_sem, List.length_map, hlt]
    rw [hr, List.drop_of_length_le (by omega), List.drop_of_length_le (by omega), zfq]
set_option maxHeartbeats 400000 in
theorem znt (a : Fm) (H : ∀ l : Int, 0 <= l -> l <= 1048576 -> FC Tryz.prog 58 [.one (fmS a.parts), iD l] [iD (szR (zws a.parts) l)]) (l : Int) (h0 : 0 <= l) (h1 : l <= 1048576) :
  FC Tryz.prog 12 [fmD a, iD l] [iD (szR a.wt l)] := by
 refine zc0 (fun hw => ?_) Tryz.call12
 simp only [fmD, zab, zaa] at hw ⊢
 have hW := a.wt_eq
 have hls : a.var.length <= 9223372036854775807 /\ True := by simp [zfj, wfT, zol] at hw; simp [hw]
 refine zah Tryz.call12 Tryz.func12 rfl (by kernel_rfl) (zat (by kernel_rfl)) ?_
 simp -implicitDefEqProofs only [go_sem, Tryz.results12]
 refine callF (zru a.atom l (by omega) (by omega)) (by simp -implicitDefEqProofs only [go_sem, zab, zaa, zaa]) ?_
 simp -implicitDefEqProofs only [go_sem, zab, zaa, zaa]
 refine ⟨fun h1 => ?_, fun h1 => ?_⟩
 ·have := zgj (by omega) (show szR a.atom.wt l < 0 by simpa using h1)
  rw [zdh (by have hu0 : zws a.parts = a.parts.length + (a.parts.map Fm.wt).sum := rfl;  omega)]
 obtain ⟨k1, j1⟩ := zem (show ¬ szR a.atom.wt l < 0 by simpa using h1)
 rw [zbk (by omega) (by omega)]
 refine ⟨fun h2 => ?_, fun h2 => ?_⟩
 ·rw [zdh (by simp at h2; have hu0 : zws a.parts = a.parts.length + (a.parts.map Fm.wt).sum := rfl;  omega)]
 have k2 : (a.var.length : Int) <= (szR a.atom.wt l) := by simp at h2; omega
 refine callF (H ((szR a.atom.wt l) - (a.var.length : Int)) (by omega) (by omega)) (by simp -implicitDefEqProofs only [go_sem, zab, zaa]) ?_
 simp -implicitDefEqProofs only [go_sem, zab, zaa]
 refine ⟨fun h3 => ?_, fun h3 => ?_⟩
 ·have := zgj (by omega) (show szR (zws a.parts) ((szR a.atom.wt l) - (a.var.length : Int)) < 0 by simpa using h3)
  rw [zdh (by have hu0 : zws a.parts = a.parts.length + (a.parts.map Fm.wt).sum := rfl;  omega)]
 obtain ⟨k3, j3⟩ := zem (show ¬ szR (zws a.parts) ((szR a.atom.wt l) - (a.var.length : Int)) < 0 by simpa using h3)
 rw [show szR a.wt l = l - a.wt from zm3 (by have hu0 : zws a.parts = a.parts.length + (a.parts.map Fm.wt).sum := rfl;  omega)]; exact zvb (by have hu0 : zws a.parts = a.parts.length + (a.parts.map Fm.wt).sum := rfl;  omega)
set_option maxHeartbeats 400000 in
theorem zmi (a : Fm) (H : FC Tryz.prog 62 [.one (fmS a.parts)] [.one (fmS a.parts)]) (hs : a.wt <= 1048576) : FC Tryz.prog 15 [fmD a] [fmD a] := by
 have hW := a.wt_eq
 simp only [fmD, zab, zaa]
 refine zah Tryz.call15 Tryz.func15 rfl (by kernel_rfl) (zat (by kernel_rfl)) ?_
 simp -implicitDefEqProofs only [go_sem, Tryz.results15]
 refine callF (zsc a.atom (by have hu0 : zws a.parts = a.parts.length + (a.parts.map Fm.wt).sum := rfl;  omega)) (by simp -implicitDefEqProofs only [go_sem, zab, zaa, zaa]) ?_
 simp -implicitDefEqProofs only [go_sem, zab, zaa, zaa]
 refine callF (H) (by simp -implicitDefEqProofs only [go_sem, zab, zaa]) ?_
 simp -implicitDefEqProofs only [go_sem, zab, zaa]
set_option maxHeartbeats 400000 in
theorem znf (a b : Fm) (H : FC Tryz.prog 73 [.one (fmS a.parts), .one (fmS b.parts)] [bD (same a.parts b.parts)]) : FC Tryz.prog 18 [fmD a, fmD b] [bD (same a b)] := by
 simp only [fmD, zab, zaa]
 refine zah Tryz.call18 Tryz.func18 rfl (by kernel_rfl) (zat (by kernel_rfl)) ?_
 simp -implicitDefEqProofs only [go_sem, Tryz.results18]
 refine ⟨fun h1 => ?_, fun h1 => ?_⟩
 ·rw [zcr.2 (by rintro rfl; simp [zbw] at h1)]
 refine callF (zql a.atom b.atom) (by simp -implicitDefEqProofs only [go_sem, zab, zaa, zaa]) ?_
 simp -implicitDefEqProofs only [go_sem, zab, zaa, zaa]
 refine ⟨fun h2 => ?_, fun h2 => ?_⟩
 ·rw [zcr.2 (by rintro rfl; simp [zbw] at h2)]
 refine ⟨fun h3 => ?_, fun h3 => ?_⟩
 ·rw [zcr.2 (by rintro rfl; simp [zbw] at h3)]
 refine callF (H) (by simp -implicitDefEqProofs only [go_sem, zab, zaa]) ?_
 simp -implicitDefEqProofs only [go_sem, zab, zaa]
 refine ⟨fun h4 => ?_, fun h4 => ?_⟩
 ·rw [zcr.2 (by rintro rfl; simp [zbw] at h4)]
 rw [zcf.2 (by cases a; cases b; simp [zcf, Fm.op, Fm.atom, Fm.var, Fm.parts] at h1 h2 h3 h4 ⊢; simp [h1, h2, h3, h4])]
theorem zom : ∀ a : Fm, ∀ l : Int, 0 <= l -> l <= 1048576 -> FC Tryz.prog 12 [fmD a, iD l] [iD (szR a.wt l)] :=
 za6 fun b0 b1 b2 xs ih l h0 h1 => znt (.mk b0 b1 b2 xs) (fun l h0 h1 => zky xs ih l h0 h1) l h0 h1
theorem zoz : ∀ a : Fm, a.wt <= 1048576 -> FC Tryz.prog 15 [fmD a] [fmD a] := by
 refine za6 fun b0 b1 b2 xs ih hs => ?_
 have hW := Fm.wt_eq (.mk b0 b1 b2 xs)
 simp only [Fm.op, Fm.atom, Fm.var, Fm.parts] at hW
 refine zmi _ (zkf xs (fun x hx => ih x hx ?_) (by omega)) hs
 have := zbe Fm.wt xs x hx
 omega
theorem zpp : ∀ a b : Fm, FC Tryz.prog 18 [fmD a, fmD b] [bD (same a b)] :=
 za6 fun b0 b1 b2 xs ih b => znf (.mk b0 b1 b2 xs) b (zlw xs b.parts ih)
end Go.Proofs.YtemnhgmgeijkcaaGreat
namespace Go.Proofs.YtemnhgmgeijkcaaGreat
set_option linter.unusedSimpArgs false
set_option linter.unusedVariables false
set_option linter.unusedSectionVars false
set_option maxRecDepth 4000
open Go.RowKit
def zew (b : UInt8) : Bool := decide (97 <= (b.toNat : Int)) && decide ((b.toNat : Int) <= 122)
def qc0 (b : UInt8) : Bool := decide (48 <= (b.toNat : Int)) && decide ((b.toNat : Int) <= 57)
def zi3 (b : UInt8) : Bool := decide (65 <= (b.toNat : Int)) && decide ((b.toNat : Int) <= 90)
def zk9 (b : UInt8) : Bool := zew b || qc0 b
abbrev uD (b : UInt8) : D := .one (.int .u8 b.toNat)
theorem zfw (b : UInt8) : FC Tryz.prog 275 [uD b] [bD (zew b)] := by
 unfold zew
 refine zah Tryz.call275 Tryz.func275 rfl (by kernel_rfl) (zat (by kernel_rfl)) ?_
 simp -implicitDefEqProofs only [go_sem, Tryz.results275]
 refine ⟨fun h => ?_, fun h => ?_⟩ <;> simp at h ⊢ <;> omega
theorem znr (b : UInt8) : FC Tryz.prog 276 [uD b] [bD (qc0 b)] := by
 unfold qc0
 refine zah Tryz.call276 Tryz.func276 rfl (by kernel_rfl) (zat (by kernel_rfl)) ?_
 simp -implicitDefEqProofs only [go_sem, Tryz.results276]
 refine ⟨fun h => ?_, fun h => ?_⟩ <;> simp at h ⊢ <;> omega
theorem zmo (b : UInt8) : FC Tryz.prog 263 [uD b] [bD (zi3 b)] := by
 unfold zi3
 refine zah Tryz.call263 Tryz.func263 rfl (by kernel_rfl) (zat (by kernel_rfl)) ?_
 simp -implicitDefEqProofs only [go_sem, Tryz.results263]
 refine ⟨fun h => ?_, fun h => ?_⟩ <;> simp at h ⊢ <;> omega
def inB (n lo hi : Int) : Bool := decide (lo <= n) && decide (n <= hi)
theorem zq1 (n lo hi : Int) : FC Tryz.prog 204 [iD n, iD lo, iD hi] [bD (inB n lo hi)] := by
 unfold inB
 refine zah Tryz.call204 Tryz.func204 rfl (by kernel_rfl) (zat (by kernel_rfl)) ?_
 simp -implicitDefEqProofs only [go_sem, Tryz.results204]
 refine ⟨fun h => ?_, fun h => ?_⟩ <;> simp at h ⊢ <;> omega
theorem qe5 (n lo hi : Int) : FC Tryz.prog 195 [iD n, iD lo, iD hi] [bD (inB n lo hi)] := by
 unfold inB
 refine zah Tryz.call195 Tryz.func195 rfl (by kernel_rfl) (zat (by kernel_rfl)) ?_
 simp -implicitDefEqProofs only [go_sem, Tryz.results195]
 refine ⟨fun h => ?_, fun h => ?_⟩ <;> simp at h ⊢ <;> omega
theorem qb7 (a b : Int) : FC Tryz.prog 296 [iD a, iD b] [iD (max a b)] := by
 refine zah Tryz.call296 Tryz.func296 rfl (by kernel_rfl) (zat (by kernel_rfl)) ?_
 simp -implicitDefEqProofs only [go_sem, Tryz.results296]
 refine ⟨fun h => ?_, fun h => ?_⟩ <;> simp at h <;> exact zvb (by omega)
theorem zn6 (b : UInt8) : FC Tryz.prog 273 [uD b] [bD (zk9 b)] := by
 unfold zk9 zew qc0
 refine zah Tryz.call273 Tryz.func273 rfl (by kernel_rfl) (zat (by kernel_rfl)) ?_
 simp -implicitDefEqProofs only [go_sem, Tryz.results273]
 simp only [T.bool.injEq, decide_eq_true_eq, decide_eq_false_iff_not]
 refine ⟨fun h => ⟨fun h2 => ⟨fun h3 => ?_, fun h3 => ?_⟩, fun h2 => ?_⟩, fun h => ⟨fun h2 => ?_, fun h2 => ?_⟩⟩ <;> simp [h, h2] <;> omega
def zpg : Str -> Bool
 | [] => true
 | c :: cs => zi3 c && cs.all zk9
def zav (s : Str) : Bool := zpg s && inB s.length 1 4
theorem ze0 (s : Str) : FC Tryz.prog 228 [sD s] [bD (zav s)] := by
 refine zc0 (fun hw => ?_) Tryz.call228
 have hl : s.length <= 9223372036854775807 := by simpa [zfj, wfT] using hw.1
 refine zah Tryz.call228 Tryz.func228 rfl (by kernel_rfl) (zat (by kernel_rfl)) ?_
 simp -implicitDefEqProofs only [go_sem, Tryz.results228]
 refine zae (fun k : Nat => hd [(0, vT (.str s)), (5, vI s.length), (6, vI k)] [] []) (fun k => k <= s.length /\ zpg s = if k = 0 then zpg s else (s.drop k).all zk9) (fun k => s.length - k) 0 (zac ?_) ?_ ?_
 ·simp -implicitDefEqProofs only [go_sem]
 ·simp
 ·intro k ⟨hk, hr⟩
  by_cases hlt : k < s.length
  ·by_cases h0 : k = 0
   ·subst h0
    have hl0 : (0 : Int) < s.length := by omega
    have he : zpg s = (zi3 (s.getD 0 0) && (s.drop 1).all zk9) := by cases s; exact absurd hlt (by simp); rfl
    simp -implicitDefEqProofs only [go_sem, hlt, hl0]
    refine callF (zmo (s.getD 0 0)) (by simp -implicitDefEqProofs only [go_sem]) ?_
    simp -implicitDefEqProofs only [go_sem]
    refine ⟨fun h => ⟨1, ⟨hlt, ?_⟩, by omega, zac (by simp -implicitDefEqProofs only [go_sem]; rw [zbk (by omega) (by omega)])⟩, fun h => ?_⟩
    ·have : zi3 (s.getD 0 0) = true := by simpa using h
     rw [he, this]; rfl
    ·have : zi3 (s.getD 0 0) = false := by simpa using h
     rw [zav, he, this]; rfl
   ·have h1 : ((k : Int) == 0) = false := by simp; omega
    have h2 : (0 : Int) < k := by omega
    have hg : s.getD k 0 = s[k] := by simp [List.getD, hlt]
    rw [if_neg h0, List.drop_eq_getElem_cons hlt, List.all_cons] at hr
    simp -implicitDefEqProofs only [go_sem, hlt, h1, h2]
    refine callF (zfw (s.getD k 0)) (by simp -implicitDefEqProofs only [go_sem]) ?_
    simp -implicitDefEqProofs only [go_sem]
    simp only [hg]
    refine ⟨fun h => ⟨hlt, ?_⟩, fun h => ?_⟩
    ·refine callF (znr s[k]) (by simp -implicitDefEqProofs only [go_sem]) ?_
     simp -implicitDefEqProofs only [go_sem]
     refine ⟨fun h' => ?_, fun h' => ⟨k + 1, ⟨hlt, ?_⟩, by omega, zac (by simp -implicitDefEqProofs only [go_sem]; rw [zao (by omega)])⟩⟩
     ·have : zk9 s[k] = false := by simp [zk9]; simp at h h'; exact ⟨h, h'⟩
      simp [zav, hr, this]
     ·have : zk9 s[k] = true := by simp [zk9]; right; simpa using h'
      rw [hr, this]; simp
    ·refine ⟨k + 1, ⟨hlt, ?_⟩, by omega, zac (by simp -implicitDefEqProofs only [go_sem]; rw [zao (by omega)])⟩
     have : zk9 s[k] = true := by simp [zk9]; left; simpa using h
     rw [hr, this]; simp
  ·simp -implicitDefEqProofs only [go_sem, hlt]
   refine callF (zq1 s.length 1 4) (by simp -implicitDefEqProofs only [go_sem]) ?_
   simp -implicitDefEqProofs only [go_sem]
   have : zpg s = true := by
    by_cases h0 : k = 0
    ·have : s = [] := List.length_eq_zero_iff.1 (by omega)
     rw [this]; rfl
    ·rw [hr, if_neg h0, List.drop_of_length_le (by omega)]; rfl
   simp [zav, this]
end Go.Proofs.YtemnhgmgeijkcaaGreat
namespace Go.Proofs.YtemnhgmgeijkcaaGreat
set_option linter.unusedSimpArgs false
set_option linter.unusedVariables false
set_option linter.unusedSectionVars false
set_option maxRecDepth 4000
open Go.RowKit
abbrev zb0 (xs : List Str) : T := .sl 1 (xs.map fun s => [.str s])
theorem znb {α : Type} [BEq α] [LawfulBEq α] {xs : List α} {s : α} {k : Nat} (hk : k < xs.length) (hn : s ∉ xs.take k) (e : xs[k] = s) : xs.idxOf s = k := by
 have h : xs = xs.take k ++ xs.drop k := (List.take_append_drop k xs).symm
 rw [List.drop_eq_getElem_cons hk] at h
 rw [h, List.idxOf_append, if_neg hn, e]
 rw [show (s :: xs.drop (k + 1)).idxOf s = 0 from List.idxOf_cons_self ..]
 simp; omega
theorem zec {α : Type} {xs : List α} {s : α} {k : Nat} (hk : k < xs.length) (hn : s ∉ xs.take k) (e : xs[k] ≠ s) : s ∉ xs.take (k + 1) := by
 rw [List.take_succ_eq_append_getElem hk]
 simp only [List.mem_append, List.mem_singleton, not_or]
 exact ⟨hn, fun h => e h.symm⟩
def qe7 {α : Type} [BEq α] (xs : List α) (s : α) : Int := if xs.contains s then xs.idxOf s else -1
theorem zs4 (xs : List Str) (s : Str) : FC Tryz.prog 236 [.one (zb0 xs), sD s] [iD (qe7 xs s)] := by
 refine zc0 (fun hw => ?_) Tryz.call236
 have hl : xs.length <= 9223372036854775807 := by simpa [zfj, wfT] using hw.1.1
 refine zah Tryz.call236 Tryz.func236 rfl (by kernel_rfl) (zat (by kernel_rfl)) ?_
 simp -implicitDefEqProofs only [go_sem, Tryz.results236]
 refine zae (fun k : Nat => hd [(0, vT (zb0 xs)), (1, vT (.str s)), (7, vI xs.length), (8, vI k)] [] []) (fun k => k <= xs.length /\ s ∉ xs.take k) (fun k => xs.length - k) 0 (zac ?_) ?_ ?_
 ·simp -implicitDefEqProofs only [go_sem]
 ·simp
 ·intro k ⟨hk, hr⟩
  by_cases hlt : k < xs.length
  ·simp -implicitDefEqProofs only [go_sem, zag, hlt]
   refine ⟨fun h => ?_, fun h => ?_⟩
   ·have e : xs[k] = s := (beq_iff_eq.1 h).symm
    have hm : s ∈ xs := e ▸ List.getElem_mem hlt
    rw [qe7, if_pos (by simpa using hm), znb hlt hr e]
   ·have e : xs[k] ≠ s := fun e => by simp [e] at h
    exact ⟨k + 1, ⟨hlt, zec hlt hr e⟩, by omega, zac (by simp -implicitDefEqProofs only [go_sem]; rw [zao (by omega)])⟩
  ·simp -implicitDefEqProofs only [go_sem, hlt]
   rw [List.take_of_length_le (by omega)] at hr
   rw [qe7, if_neg (by simpa using hr)]
theorem zc8 (xs : List Str) (s : Str) : FC Tryz.prog 171 [.one (zb0 xs), sD s] [bD (xs.contains s)] := by
 refine zah Tryz.call171 Tryz.func171 rfl (by kernel_rfl) (zat (by kernel_rfl)) ?_
 simp -implicitDefEqProofs only [go_sem, Tryz.results171]
 refine callF (zs4 xs s) (by simp -implicitDefEqProofs only [go_sem]) ?_
 simp -implicitDefEqProofs only [go_sem]
 unfold qe7
 cases h : xs.contains s <;> simp
def zqg : List Str := [[116, 114, 117, 101], [102, 97, 108, 115, 101], [116, 114, 117, 116, 104], [98, 111, 116, 104], [101, 105, 116, 104, 101, 114], [105, 102], [97, 108, 108], [115, 111, 109, 101]]
theorem ztv : FC Tryz.prog 291 [] [.one (zb0 zqg)] := by
 refine zah Tryz.call291 Tryz.func291 rfl (by kernel_rfl) (zat (by kernel_rfl)) ?_
 simp -implicitDefEqProofs only [go_sem, Tryz.results291]
 refine za9 (by simp -implicitDefEqProofs only [go_sem]) ?_
 simp -implicitDefEqProofs only [go_sem]
 rfl
def zls (b : UInt8) : Bool := zk9 b || b == 95
def zix : Str -> Bool
 | [] => true
 | c :: cs => zew c && cs.all zls
def zch (s : Str) : Bool := zix s && inB s.length 1 6 && !zqg.contains s
theorem qfz {b : UInt8} {n : Nat} (hn : n < 256) : ((b.toNat : Int) == (n : Int)) = (b == UInt8.ofNat n) := by
 rw [Bool.eq_iff_iff]
 simp only [beq_iff_eq]
 constructor
 ·intro h
  apply UInt8.toNat_inj.1
  simp [UInt8.toNat_ofNat]
  omega
 ·intro h
  subst h
  simp [UInt8.toNat_ofNat]
  omega
theorem zjf (s : Str) : FC Tryz.prog 261 [sD s] [bD (zch s)] := by
 refine zc0 (fun hw => ?_) Tryz.call261
 have hl : s.length <= 9223372036854775807 := by simpa [zfj, wfT] using hw.1
 refine zah Tryz.call261 Tryz.func261 rfl (by kernel_rfl) (zat (by kernel_rfl)) ?_
 simp -implicitDefEqProofs only [go_sem, Tryz.results261]
 refine zae (fun k : Nat => hd [(0, vT (.str s)), (5, vI s.length), (6, vI k)] [] []) (fun k => k <= s.length /\ zix s = if k = 0 then zix s else (s.drop k).all zls) (fun k => s.length - k) 0 (zac ?_) ?_ ?_
 ·simp -implicitDefEqProofs only [go_sem]
 ·simp
 ·intro k ⟨hk, hr⟩
  by_cases hlt : k < s.length
  ·by_cases h0 : k = 0
   ·subst h0
    have hl0 : (0 : Int) < s.length := by omega
    have he : zix s = (zew (s.getD 0 0) && (s.drop 1).all zls) := by cases s; exact absurd hlt (by simp); rfl
    simp -implicitDefEqProofs only [go_sem, hlt, hl0]
    refine callF (zfw (s.getD 0 0)) (by simp -implicitDefEqProofs only [go_sem]) ?_
    simp -implicitDefEqProofs only [go_sem]
    refine ⟨fun h => ⟨hl0, ?_⟩, fun h => ?_⟩
    ·have hi : zew (s.getD 0 0) = true := by simpa using h
     refine callF (zfw (s.getD 0 0)) (by simp -implicitDefEqProofs only [go_sem, hi]) ?_
     simp -implicitDefEqProofs only [go_sem, hi]
     refine ⟨1, ⟨hlt, ?_⟩, by omega, zac (by simp -implicitDefEqProofs only [go_sem]; rw [zbk (by omega) (by omega)])⟩
     rw [he, hi]; rfl
    ·have : zew (s.getD 0 0) = false := by simpa using h
     rw [zch, he, this]; rfl
   ·have h1 : ((k : Int) == 0) = false := by simp; omega
    have h2 : (0 : Int) < k := by omega
    have hg : s.getD k 0 = s[k] := by simp [List.getD, hlt]
    rw [if_neg h0, List.drop_eq_getElem_cons hlt, List.all_cons] at hr
    simp -implicitDefEqProofs only [go_sem, hlt, h1, h2]
    refine callF (zfw (s.getD k 0)) (by simp -implicitDefEqProofs only [go_sem]) ?_
    simp -implicitDefEqProofs only [go_sem]
    simp only [hg]
    refine ⟨fun h => ⟨hlt, ?_⟩, fun h => ?_⟩
    ·refine callF (znr s[k]) (by simp -implicitDefEqProofs only [go_sem]) ?_
     simp -implicitDefEqProofs only [go_sem]
     simp only [hg]
     refine ⟨fun h' => ⟨hlt, fun h'' => ?_, fun h'' => ⟨k + 1, ⟨hlt, ?_⟩, by omega, zac (by simp -implicitDefEqProofs only [go_sem]; rw [zao (by omega)])⟩⟩, fun h' => ⟨k + 1, ⟨hlt, ?_⟩, by omega, zac (by simp -implicitDefEqProofs only [go_sem]; rw [zao (by omega)])⟩⟩
     ·have : zls s[k] = false := by
       have := qfz (b := s[k]) (n := 95) (by omega)
       simp [zls, zk9] at h h' ⊢
       refine ⟨⟨h, h'⟩, fun e => ?_⟩
       rw [e] at h''
       simp at h''
      rw [zch, hr, this]; rfl
     ·have : zls s[k] = true := by
       have := qfz (b := s[k]) (n := 95) (by omega)
       simp [zls] at h'' ⊢
       right
       simpa [h''] using this
      rw [hr, this]; rfl
     ·have : zls s[k] = true := by simp [zls, zk9]; simp at h'; simp [h']
      rw [hr, this]; rfl
    ·refine ⟨k + 1, ⟨hlt, ?_⟩, by omega, zac (by simp -implicitDefEqProofs only [go_sem]; rw [zao (by omega)])⟩
     have : zls s[k] = true := by simp [zls, zk9]; simp at h; simp [h]
     rw [hr, this]; rfl
  ·simp -implicitDefEqProofs only [go_sem, hlt]
   refine callF (zq1 s.length 1 6) (by simp -implicitDefEqProofs only [go_sem]) ?_
   simp -implicitDefEqProofs only [go_sem]
   have ha : zix s = true := by
    by_cases h0 : k = 0
    ·have : s = [] := List.length_eq_zero_iff.1 (by omega)
     rw [this]; rfl
    ·rw [hr, if_neg h0, List.drop_of_length_le (by omega)]; rfl
   refine ⟨fun h => ?_, fun h => ?_⟩
   ·refine callF (ztv) (by simp -implicitDefEqProofs only [go_sem]) ?_
    simp -implicitDefEqProofs only [go_sem]
    refine callF (zc8 zqg s) (by simp -implicitDefEqProofs only [go_sem]) ?_
    simp -implicitDefEqProofs only [go_sem]
    rw [zch, ha, h]; rfl
   ·rw [zch, ha, h]; rfl
end Go.Proofs.YtemnhgmgeijkcaaGreat
namespace Go.Proofs.YtemnhgmgeijkcaaGreat
set_option linter.unusedSimpArgs false
set_option linter.unusedVariables false
set_option linter.unusedSectionVars false
set_option maxRecDepth 4000
open Go.RowKit Go.Sort Go.Proofs
variable {P : Program}
theorem zlr {w : World} : ∀ {ss : List Str} {vs : List Value} {fps : List Nat}, zas w (ss.map T.str) vs fps -> vs = ss.map encStr /\ fps = [] /\ ∀ s ∈ ss, s.length <= zd7
 | [], vs, fps, h => ⟨h.1, h.2, by simp⟩
 | s :: ss, vs, fps, h => by
  obtain ⟨v, vs', f1, f2, rfl, rfl, h1, h2⟩ := h
  unfold zax at h1
  obtain ⟨rfl, k1, rfl⟩ := h1
  obtain ⟨rfl, rfl, k2⟩ := zlr h2
  exact ⟨rfl, rfl, fun x hx => (List.mem_cons.1 hx).elim (fun e => e ▸ k1) (k2 x)⟩
theorem zlp {w : World} : ∀ {ss : List Str}, (∀ s ∈ ss, s.length <= zd7) -> zas w (ss.map T.str) (ss.map encStr) []
 | [], _ => ⟨rfl, rfl⟩
 | s :: ss, h => ⟨_, _, [], [], rfl, rfl, by unfold zax; exact ⟨rfl, h s (by simp), rfl⟩, zlp fun x hx => h x (by simp [hx])⟩
theorem zet (ss : List Str) : (ss.map fun s => [T.str s]).flatten = ss.map T.str := by induction ss <;> simp_all
theorem zmx (ss : List Str) : lens 1 (ss.map fun s => [T.str s]) := fun r hr => by obtain ⟨s, _, rfl⟩ := List.mem_map.1 hr; rfl
abbrev zdk (ss : List Str) : List Str := ss.mergeSort leB
theorem qgt {f : FuncId} (hc : za3 P f) (hS : ∀ (blk off cap : Nat) (ss : List (List UInt8)) (w : World), Holds encStr w blk off ss.toArray -> blk < w.heap.size -> ss.length < 4611686018427387904 →
   Calls P f #[.slice (some ⟨blk, off, none⟩) ss.length cap] w fun e w' => e = .returned (.tuple #[]) /\ ∃ n os, w' = grow (putRow encStr (Sort.ahead w n) blk off (ss.mergeSort fun x y => decide (x <= y)).toArray) os)
  (hN : ∀ (p : Option Addr) (cap : Nat) (w : World), Calls P f #[.slice p 0 cap] w fun e w' => e = .returned (.tuple #[]) /\ w' = w) (ss : List Str) (hl : ss.length < 4611686018427387904) : IC P f [] (.one (zb0 ss)) [] (.one (zb0 (zdk ss))) [] := by
 refine ⟨hc, fun w us1 v us2 fp tp h1 hg h2 hn => ?_⟩
 rw [show us1 = [] from h1, show us2 = [] from h2]
 obtain ⟨hg, _⟩ := hg
 unfold zax at hg
 obtain ⟨ao, cap, rfl, q1, q2, q3⟩ := hg
 rw [List.length_map] at q1 ⊢
 rcases q3 with ⟨rfl, rfl, q3, rfl⟩ | ⟨b, cells, ty, fps, rfl, rfl, q3, q4, q5⟩
 ·have hs : ss = [] := List.map_eq_nil_iff.1 q3
  subst hs
  refine (hN none 0 w).mono ?_
  rintro e w' ⟨rfl, rfl⟩
  refine ⟨[], [], [], rfl, ⟨_, [], [], [], [], [], rfl, rfl, rfl, ⟨?_, rfl⟩, rfl, rfl, rfl⟩, List.nodup_nil, by simp, Bk.refl _ _⟩
  unfold zax
  exact ⟨none, 0, by simp [zdk], by simp [zdk], by simp, Or.inl ⟨rfl, rfl, by simp [zdk], rfl⟩⟩
 ·obtain ⟨_, vs, k1, k2, k3⟩ := q5.vals
  rw [zet] at k3
  obtain ⟨rfl, rfl, k4⟩ := zlr k3
  have hsz : ss.length <= cells.size := by omega
  have ht : cells.toList.take ss.length = ss.map encStr := by
   apply List.ext_getElem?
   intro j
   by_cases hj : j < ss.length
   ·rw [List.getElem?_take_of_lt hj, Array.getElem?_toList]
    have := k2 j _ (List.getElem?_eq_getElem (by simpa using hj))
    rw [Nat.zero_add] at this
    rw [this, List.getElem?_eq_getElem (by simpa using hj)]
   ·rw [List.getElem?_take_eq_none (by omega), List.getElem?_eq_none (by simp; omega)]
  refine (hS b 0 cap ss w (holds_of_block q3 ht) (Array.getElem?_eq_some_iff.1 q3).1 hl).mono ?_
  rintro e w' ⟨rfl, n, os, rfl⟩
  have hgr := grownBy_sorted (w := w) (g := b) (n := n) (os := os) (ss.mergeSort fun x y => decide (x <= y)).toArray
  have hlen : (zdk ss).length = ss.length := by simp [zdk]
  have htk := take_putCells cells (zdk ss) (by omega)
  refine ⟨[], [b], [b], rfl, ⟨_, [], [b], [], [b], [], rfl, rfl, rfl, ⟨?_, rfl⟩, rfl, rfl, rfl⟩, by simp, fun x hx => Or.inl hx, ⟨hgr.os, hgr.tape, hgr.output, hgr.size, fun k hk => hgr.block k hk.1 fun e => hk.2 (by cases e; simp)⟩⟩
  unfold zax
  refine ⟨_, cap, by rw [List.length_map, hlen], by rw [List.length_map, hlen]; exact q1, q2, Or.inr ⟨b, _, ty, [], rfl, rfl, heap_sorted _ q3, by simp [putCells, q4], ?_⟩⟩
  refine zak.of_vals (zmx _) (by rw [zet]; exact zlp fun s hs => k4 s ((List.mergeSort_perm ss leB).mem_iff.1 hs)) fun j u hu => ?_
  rw [<- htk, List.getElem?_take] at hu
  split at hu
  ·simpa using hu
  ·cases hu
structure CloneOf (P : Program) (f : FuncId) (sz bytes : Nat) : Prop where
 call : za3 P f
 old : ∀ (ad : Addr) (n c : Nat) (news : List Value) (w : World), news.length = n * sz -> n <= maxLen -> n * bytes <= 140737488355328 -> (∀ j u, news[j]? = some u -> w.cell? (ad.add j) = some u) -> (∀ u ∈ news, u.oneCell' = true) →
  Calls P f #[.slice (some ad) n c] w fun e w' => ∃ t v', e = .returned v' /\ w'.ownsRow w.heap.size t sz v' n news /\ v' ≠ .slice none 0 0 /\ Below w.heap.size w w'
 none : ∀ (n c : Nat) (w : World), Calls P f #[.slice none n c] w fun e w' => e = .returned (.slice none 0 0) /\ w' = w
theorem zam.valsA {w : World} {A : Nat -> Prop} {b sz : Nat} {rows : List (List T)} {o : Nat} (h : zam w A b o sz rows) : ∃ vs, vs.length = rows.length * sz /\ (∀ j u, vs[j]? = some u -> w.cell? ⟨b, o + j, none⟩ = some u) /\ zad w A rows.flatten vs /\ lens sz rows := by
 obtain ⟨h1, vs, h2, h3, h4⟩ := h.vals
 exact ⟨vs, h2, h3, h4, h1⟩
theorem zxn {f : FuncId} {sz bytes : Nat} (h : CloneOf P f sz bytes) (rows : List (List T)) (hb : rows.length * bytes <= 140737488355328) {w : World} {A : Nat -> Prop} {v : Value} (h1 : zal w A (.sl sz rows) v) :
  Calls P f #[v] w fun e w' => ∃ v', e = .returned v' /\ Below w.heap.size w w' /\ ((v' = .slice none 0 0 /\ rows = []) \/ ∃ g cap cur ty vs, v' = .slice (some ⟨g, 0, none⟩) rows.length cap /\ w.heap.size <= g /\ w'.heap[g]? = some (.cells cur ty (0, 0)) /\ rows.length <= cap /\ cap <= zd7 /\ cur.size = cap * sz /\ cur.toList.take (rows.length * sz) = vs /\ zad w A rows.flatten vs /\ lens sz rows) := by
 unfold zal at h1
 obtain ⟨ao, cap, rfl, q1, q2, q3⟩ := h1
 cases ao with
 | none =>
  have hr : rows = [] := q3.resolve_right fun ⟨b, o, e, _⟩ => by cases e
  refine (h.none rows.length cap w).mono ?_
  rintro e w' ⟨rfl, rfl⟩
  exact ⟨_, rfl, Below.refl _ _, Or.inl ⟨rfl, hr⟩⟩
 | some ad =>
  have hx : ∃ news : List Value, news.length = rows.length * sz /\ (∀ j u, news[j]? = some u -> w.cell? (ad.add j) = some u) /\ zad w A rows.flatten news /\ lens sz rows := by
   rcases q3 with rfl | ⟨b', o', e, _, q4⟩
   ·exact ⟨[], by simp, fun j u hj => by simp at hj, by unfold zad; rfl, fun r hr => by simp at hr⟩
   ·cases e
    obtain ⟨news, k1, k2, k3, k4⟩ := q4.valsA
    exact ⟨news, k1, fun j u hj => by rw [zd9]; exact k2 j u hj, k3, k4⟩
  obtain ⟨news, k1, k2, k3, k4⟩ := hx
  refine (h.old ad rows.length cap news w k1 (by unfold maxLen; have := q2; unfold zd7 at this; omega) hb k2 k3.one).mono ?_
  rintro e w' ⟨t, v', rfl, ⟨o1, o2⟩, hn, hbel⟩
  refine ⟨v', rfl, hbel, Or.inr ?_⟩
  rcases o2 with ⟨e, _⟩ | ⟨g, cap', cur, e, p1, p2, p3, p4, p5, p6⟩
  ·exact absurd e hn
  ·exact ⟨g, cap', cur, t, news, e, p1, p2, p3, by unfold maxLen at p4; omega, p5, p6, k3, k4⟩
theorem qg3 {cur : Array Value} {vs : List Value} {n : Nat} (h : cur.toList.take n = vs) : ∀ j u, vs[j]? = some u -> cur[0 + j]? = some u := fun j u hu => by
 rw [<- h, List.getElem?_take] at hu
 split at hu
 ·simpa using hu
 ·cases hu
theorem qb8 {f : FuncId} {sz bytes : Nat} (h : CloneOf P f sz bytes) (rows : List (List T)) (hb : rows.length * bytes <= 140737488355328) (hf : ∀ c ∈ rows.flatten, c.flat = true) : FC P f [.one (.sl sz rows)] [.one (.sl sz rows)] := by
 refine ⟨h.call, fun w vs fp tp hv hn => ?_⟩
 obtain ⟨hr, rfl, rfl⟩ := zcc hv
 obtain ⟨v, _, rfl, h1, rfl⟩ := hr
 refine (zxn h rows hb h1).mono ?_
 rintro e w' ⟨v', rfl, hbel, hh⟩
 have hB : Bk (fun k => k < w.heap.size /\ k ∉ ([] : List Nat)) w w' := ⟨hbel.os, hbel.tape, hbel.output, hbel.size, fun k hk => hbel.block k hk.1⟩
 rcases hh with ⟨rfl, hr⟩ | ⟨g, cap, cur, ty, vs, rfl, p1, p2, p3, p4, p5, p6, p7, p8⟩
 ·subst hr
  refine ⟨[_], [], [], rfl, ⟨_, [], [], [], [], [], rfl, rfl, rfl, ⟨?_, rfl⟩, rfl, rfl, rfl⟩, List.nodup_nil, by simp, hB⟩
  unfold zax
  exact ⟨Option.none, 0, rfl, Nat.le_refl _, by simp, Or.inl ⟨rfl, rfl, rfl, rfl⟩⟩
 ·refine ⟨[_], [g], [g], rfl, ⟨_, [], [g], [], [g], [], rfl, rfl, rfl, ⟨?_, rfl⟩, rfl, rfl, rfl⟩, by simp, fun b hb => by rw [List.mem_singleton.1 hb]; exact Or.inr p1, hB⟩
  unfold zax
  refine ⟨_, cap, rfl, p3, p4, Or.inr ⟨g, cur, ty, [], rfl, rfl, p2, p5, ?_⟩⟩
  have hown := zad.own p7 hf
  exact zak.of_vals p8 (zas.keep hown fun b hb => by simp at hb) fun j u hu => qg3 p6 j u hu
theorem zki (a b : Str) : Op.bytesLess a b = decide (a < b) := bytesLess_eq a b
def Srt (xs : List Str) : Prop := xs.Pairwise (· < ·)
theorem zij (a : Str) : ¬ a < a := List.lt_irrefl a
theorem znz {xs : List Str} (h : Srt xs) : xs.Nodup := List.Pairwise.imp (fun {a b} (h : a < b) (e : a = b) => zij b (e ▸ h)) h
theorem qil {xs ys : List Str} (hx : Srt xs) (hy : Srt ys) (h : ∀ s, s ∈ xs ↔ s ∈ ys) : xs = ys := by
 have hp : xs.Perm ys := (List.perm_ext_iff_of_nodup (znz hx) (znz hy)).2 h
 exact hp.eq_of_pairwise (le := fun a b => a < b) (fun a b _ _ h1 h2 => absurd (List.lt_trans h1 h2) (zij a)) hx hy
theorem qfk {a b : Str} (h : a <= b) : a < b \/ a = b := by
 by_cases h1 : a < b
 ·exact Or.inl h1
 ·exact Or.inr (List.le_antisymm h (List.not_lt.1 h1))
theorem zvf (xs : List Str) (s : Str) : s ∈ zdk xs ↔ s ∈ xs := (List.mergeSort_perm xs leB).mem_iff
theorem zxm {xs : List Str} (h : xs.Nodup) : Srt (zdk xs) := by
 have tr : ∀ a b c : List UInt8, leB a b = true -> leB b c = true -> leB a c = true := fun a b c h1 h2 => by simp only [leB, decide_eq_true_eq] at *; exact List.le_trans h1 h2
 have to : ∀ a b : List UInt8, (leB a b || leB b a) = true := fun a b => by simp only [leB, Bool.or_eq_true, decide_eq_true_eq]; exact List.le_total a b
 have hs := List.pairwise_mergeSort tr to xs
 have hn : (zdk xs).Nodup := (List.mergeSort_perm xs leB).nodup_iff.2 h
 refine (List.Pairwise.and hs hn).imp ?_
 rintro a b ⟨h1, h2⟩
 simp only [leB, decide_eq_true_eq] at h1
 exact (qfk h1).resolve_right h2
def zqz (l : List Str) (s : Str) : List Str := if (l.dropWhile fun x => Op.bytesLess x s).head? = some s then l else (l.takeWhile fun x => Op.bytesLess x s) ++ [s] ++ l.dropWhile fun x => Op.bytesLess x s
theorem qda (l : List Str) (s x : Str) : x ∈ zqz l s ↔ x = s \/ x ∈ l := by
 have e : l = (l.takeWhile fun x => Op.bytesLess x s) ++ l.dropWhile fun x => Op.bytesLess x s := (List.takeWhile_append_dropWhile).symm
 unfold zqz
 split
 ·rename_i h
  have : s ∈ l := by rw [e]; exact List.mem_append_right _ (List.mem_of_mem_head? h)
  exact ⟨Or.inr, fun h => h.elim (fun e => e ▸ this) id⟩
 ·conv => rhs; rw [e]
  simp only [List.mem_append, List.mem_singleton, or_assoc]
  constructor
  ·rintro (h | h | h)
   ·exact Or.inr (Or.inl h)
   ·exact Or.inl h
   ·exact Or.inr (Or.inr h)
  ·rintro (h | h | h)
   ·exact Or.inr (Or.inl h)
   ·exact Or.inl h
   ·exact Or.inr (Or.inr h)
theorem zi5 {l : List Str} {p : Str -> Bool} {x : Str} (h : (l.dropWhile p).head? = some x) : p x = false := by
 induction l with
 | nil => simp at h
 | cons a l ih =>
  rw [List.dropWhile_cons] at h
  split at h
  ·exact ih h
  ·rename_i hp; simp only [List.head?_cons, Option.some.injEq] at h; subst h; simpa using hp
theorem qdd {l : List Str} (h : Srt l) (s : Str) : Srt (zqz l s) := by
 unfold zqz
 split
 ·exact h
 ·rename_i hne
  have e : (l.takeWhile fun x => Op.bytesLess x s) ++ (l.dropWhile fun x => Op.bytesLess x s) = l := List.takeWhile_append_dropWhile
  have h' := h
  rw [<- e] at h'
  obtain ⟨h1, h2, h3⟩ := List.pairwise_append.1 h'
  have ht : ∀ a ∈ l.takeWhile fun x => Op.bytesLess x s, a < s := fun a ha => by
   have := List.all_takeWhile (l := l) (p := fun x => Op.bytesLess x s)
   have := List.all_eq_true.1 this a ha
   rw [zki] at this
   exact of_decide_eq_true this
  have hd : ∀ a ∈ l.dropWhile fun x => Op.bytesLess x s, s < a := fun a ha => by
   cases hD : l.dropWhile fun x => Op.bytesLess x s with
   | nil => rw [hD] at ha; simp at ha
   | cons y ys =>
    have hy := zi5 (l := l) (p := fun x => Op.bytesLess x s) (x := y) (by rw [hD]; rfl)
    have hys : s < y := by
     have h0 : ¬ y < s := by rw [zki] at hy; exact of_decide_eq_false hy
     rcases qfk (List.not_lt.1 h0) with h | h
     ·exact h
     ·exact absurd (by rw [hD, h]; rfl) hne
    rw [hD] at ha h2
    rcases List.mem_cons.1 ha with rfl | ha
    ·exact hys
    ·exact List.lt_trans hys ((List.pairwise_cons.1 h2).1 a ha)
  rw [List.append_assoc]
  refine List.pairwise_append.2 ⟨h1, ?_, fun a ha b hb => ?_⟩
  ·exact List.pairwise_cons.2 ⟨hd, h2⟩
  ·rcases List.mem_cons.1 hb with rfl | hb
   ·exact ht a ha
   ·exact h3 a ha b hb
end Go.Proofs.YtemnhgmgeijkcaaGreat
namespace Go.Proofs
open Go.Shelf
set_option maxRecDepth 100000
def Tryz.lays190_ren : Go.Shelf.Ren := ⟨fun | 190 => 118 | 125 => 185 | 258 => 184 | 128 => 256 | 129 => 257 | 302 => 247 | 303 => 248 | 304 => 249 | 305 => 250 | 306 => 251 | 307 => 252 | 308 => 253 | 309 => 254 | 310 => 255 | 333 => 285 | 329 => 286 | 330 => 287 | 334 => 288 | 335 => 289 | 336 => 290 | 344 => 297 | n => n, fun | 31 => 100 | 9 => 9 | 3 => 3 | 46 => 152 | 0 => 0 | 51 => 227 | 53 => 229 | 4 => 4 | 183 => 219 | 182 => 218 | 131 => 224 | 5 => 5 | 218 => 241 | 222 => 245 | 228 => 252 | 229 => 253 | n => n, fun | n => n⟩
theorem Tryz.lays190 : Go.Proofs.Lays.n190 Tryz.prog Tryz.lays190_ren := {
 mixed := by kernel_rfl
 f125 := Tryz.func185.trans (congrArg some (by kernel_rfl))
 f128 := Tryz.func256.trans (congrArg some (by kernel_rfl))
 f129 := Tryz.func257.trans (congrArg some (by kernel_rfl))
 f190 := Tryz.func118.trans (congrArg some (by kernel_rfl))
 f258 := Tryz.func184.trans (congrArg some (by kernel_rfl))
 f302 := Tryz.func247.trans (congrArg some (by kernel_rfl))
 f303 := Tryz.func248.trans (congrArg some (by kernel_rfl))
 f304 := Tryz.func249.trans (congrArg some (by kernel_rfl))
 f305 := Tryz.func250.trans (congrArg some (by kernel_rfl))
 f306 := Tryz.func251.trans (congrArg some (by kernel_rfl))
 f307 := Tryz.func252.trans (congrArg some (by kernel_rfl))
 f308 := Tryz.func253.trans (congrArg some (by kernel_rfl))
 f309 := Tryz.func254.trans (congrArg some (by kernel_rfl))
 f310 := Tryz.func255.trans (congrArg some (by kernel_rfl))
 f329 := Tryz.func286.trans (congrArg some (by kernel_rfl))
 f330 := Tryz.func287.trans (congrArg some (by kernel_rfl))
 f333 := Tryz.func285.trans (congrArg some (by kernel_rfl))
 f334 := Tryz.func288.trans (congrArg some (by kernel_rfl))
 f335 := Tryz.func289.trans (congrArg some (by kernel_rfl))
 f336 := Tryz.func290.trans (congrArg some (by kernel_rfl))
 f344 := Tryz.func297.trans (congrArg some (by kernel_rfl))
 t0 := Tryz.underlying0
 a0 := Tryz.isAgg0
 z0 := Tryz.sizeOf0
 v0 := Tryz.zeroValue0
 t3 := Tryz.underlying3
 a3 := Tryz.isAgg3
 z3 := Tryz.sizeOf3
 v3 := Tryz.zeroValue3
 t4 := Tryz.underlying4
 a4 := Tryz.isAgg4
 z4 := Tryz.sizeOf4
 v4 := Tryz.zeroValue4
 t5 := Tryz.underlying5
 a5 := Tryz.isAgg5
 z5 := Tryz.sizeOf5
 v5 := Tryz.zeroValue5
 t9 := Tryz.underlying9
 a9 := Tryz.isAgg9
 z9 := Tryz.sizeOf9
 v9 := Tryz.zeroValue9
 t31 := Tryz.underlying100
 a31 := Tryz.isAgg100
 z31 := Tryz.sizeOf100
 v31 := Tryz.zeroValue100
 t46 := Tryz.underlying152
 a46 := Tryz.isAgg152
 z46 := Tryz.sizeOf152
 v46 := Tryz.zeroValue152
 t51 := Tryz.underlying227
 a51 := Tryz.isAgg227
 z51 := Tryz.sizeOf227
 v51 := Tryz.zeroValue227
 t53 := Tryz.underlying229
 a53 := Tryz.isAgg229
 z53 := Tryz.sizeOf229
 v53 := Tryz.zeroValue229
 t131 := Tryz.underlying224
 a131 := Tryz.isAgg224
 z131 := Tryz.sizeOf224
 v131 := Tryz.zeroValue224
 t182 := Tryz.underlying218
 a182 := Tryz.isAgg218
 z182 := Tryz.sizeOf218
 v182 := Tryz.zeroValue218
 t183 := Tryz.underlying219
 a183 := Tryz.isAgg219
 z183 := Tryz.sizeOf219
 v183 := Tryz.zeroValue219
 t218 := Tryz.underlying241
 a218 := Tryz.isAgg241
 z218 := Tryz.sizeOf241
 v218 := Tryz.zeroValue241
 t222 := Tryz.underlying245
 a222 := Tryz.isAgg245
 z222 := Tryz.sizeOf245
 v222 := Tryz.zeroValue245
 t228 := Tryz.underlying252
 a228 := Tryz.isAgg252
 z228 := Tryz.sizeOf252
 v228 := Tryz.zeroValue252
 t229 := Tryz.underlying253
 a229 := Tryz.isAgg253
 z229 := Tryz.sizeOf253
 v229 := Tryz.zeroValue253 }
def Tryz.lays194_ren : Go.Shelf.Ren := ⟨fun | 194 => 119 | n => n, fun | 31 => 100 | 9 => 9 | 3 => 3 | 4 => 4 | 0 => 0 | n => n, fun | n => n⟩
theorem Tryz.lays194 : Go.Proofs.Lays.n194 Tryz.prog Tryz.lays194_ren := {
 mixed := by kernel_rfl
 f194 := Tryz.func119.trans (congrArg some (by kernel_rfl))
 t0 := Tryz.underlying0
 a0 := Tryz.isAgg0
 z0 := Tryz.sizeOf0
 v0 := Tryz.zeroValue0
 t3 := Tryz.underlying3
 a3 := Tryz.isAgg3
 z3 := Tryz.sizeOf3
 v3 := Tryz.zeroValue3
 t4 := Tryz.underlying4
 a4 := Tryz.isAgg4
 z4 := Tryz.sizeOf4
 v4 := Tryz.zeroValue4
 t9 := Tryz.underlying9
 a9 := Tryz.isAgg9
 z9 := Tryz.sizeOf9
 v9 := Tryz.zeroValue9
 t31 := Tryz.underlying100
 a31 := Tryz.isAgg100
 z31 := Tryz.sizeOf100
 v31 := Tryz.zeroValue100 }
end Go.Proofs
namespace Go.Proofs.YtemnhgmgeijkcaaGreat
set_option linter.unusedSimpArgs false
set_option linter.unusedVariables false
set_option linter.unusedSectionVars false
set_option maxRecDepth 4000
open Go.RowKit
theorem Tm.wt_args {a : Tm} {n : Nat} (h : a.wt <= n) : a.args.length <= n /\ ∀ x ∈ a.args, x.wt <= n := by
 have e := Tm.wt_eq a
 refine ⟨by omega, fun x hx => ?_⟩
 have := zbe Tm.wt a.args x hx
 omega
theorem Fm.wt_parts {f : Fm} {n : Nat} (h : f.wt <= n) : f.atom.wt <= n /\ f.parts.length <= n /\ ∀ x ∈ f.parts, x.wt <= n := by
 have e := Fm.wt_eq f
 refine ⟨by omega, by omega, fun x hx => ?_⟩
 have := zbe Fm.wt f.parts x hx
 omega
set_option maxRecDepth 10000 in
theorem zm5 (xs : List Tm) (H : ∀ x ∈ xs, FC Tryz.prog 166 [tmD x] [tmD x]) (hs : xs.length <= 1048576) :
  FC Tryz.prog 231 [.one (tmS xs)] [.one (tmS xs)] := by
 by_cases h0 : xs = []
 ·subst h0
  refine zah Tryz.call231 Tryz.func231 rfl (by kernel_rfl) (zat (by kernel_rfl)) ?_
  simp -implicitDefEqProofs only [go_sem, Tryz.results231]
 ·have hp : ((xs.length : Int) == 0) = false := by
   have : 0 < xs.length := List.length_pos_iff.2 h0
   simp; omega
  refine zah Tryz.call231 Tryz.func231 rfl (by kernel_rfl) (zat (by kernel_rfl)) ?_
  simp -implicitDefEqProofs only [go_sem, Tryz.results231, hp]
  refine qb1 (by simp -implicitDefEqProofs only [go_sem]; omega) ?_
  simp -implicitDefEqProofs only [go_sem]
  refine zae (fun k : Nat => hd [(12, vT (tmS xs)), (13, vI xs.length), (3, .one (.ow 352 0)), (14, vI k)] [] [(352, ⟨true, 2, (xs.take k).map tmC ++ List.replicate (xs.length - k) [T.str [], T.sl 2 []], 0, true⟩)]) (fun k => k <= xs.length) (fun k => xs.length - k) 0 (zac ?_) ?_ ?_
  ·simp -implicitDefEqProofs only [go_sem]
   simp
  ·simp
  ·intro k hk
   by_cases hlt : k < xs.length
   ·have hlen : ((xs.take k).map tmC ++ List.replicate (xs.length - k) [T.str [], T.sl 2 []]).length = xs.length := by simp; omega
    have hlt2 : k < k + (xs.length - k) := by omega
    simp -implicitDefEqProofs only [go_sem, List.length_map, zag, hlt, zaa]
    refine callF (H xs[k] (List.getElem_mem hlt)) (by simp -implicitDefEqProofs only [go_sem, zaa, hlen, hlt, List.length_append, List.length_map, List.length_take, List.length_replicate, Nat.min_eq_left hk, hlt2]) ?_
    simp -implicitDefEqProofs only [go_sem, zaa, hlen, hlt, List.length_append, List.length_map, List.length_take, List.length_replicate, Nat.min_eq_left hk, hlt2]
    refine zqr (by simp -implicitDefEqProofs only [go_sem]; simp) ?_
    simp -implicitDefEqProofs only [go_sem]
    rw [zao (by omega)]
    refine ⟨k + 1, by omega, by omega, zac ?_⟩
    simp -implicitDefEqProofs only [go_sem]
    have hf := zf8 ((xs.take k).map tmC) xs.length k [T.str [], T.sl 2 []] (tmC xs[k]) (by simp; omega) hlt (by simp [zaa])
    simp only [zaa] at hf
    rw [hf, List.take_succ_eq_append_getElem hlt, List.map_append, List.map_singleton]
    simp only [zaa]
   ·simp -implicitDefEqProofs only [go_sem, List.length_map, hlt]
    simp [List.take_of_length_le (show xs.length <= k by omega), show xs.length - k = 0 by omega]
theorem zo9 (a : Tm) (H : FC Tryz.prog 231 [.one (tmS a.args)] [.one (tmS a.args)]) : FC Tryz.prog 166 [tmD a] [tmD a] := by
 simp only [tmD, zaa a]
 refine zah Tryz.call166 Tryz.func166 rfl (by kernel_rfl) (zat (by kernel_rfl)) ?_
 simp -implicitDefEqProofs only [go_sem, Tryz.results166]
 refine drawn (by kernel_rfl) ?_
 simp -implicitDefEqProofs only [go_sem]
 refine zaz (H) (by simp -implicitDefEqProofs only [go_sem]) ?_
 simp -implicitDefEqProofs only [go_sem]
 kernel_rfl
theorem qbl (a : Tm) (H : ∀ x ∈ a.args, FC Tryz.prog 155 [tmD x] [tmD x]) (hs : a.args.length <= 1048576) : FC Tryz.prog 155 [tmD a] [tmD a] := by
 simp only [tmD, zaa a]
 refine zah Tryz.call155 Tryz.func155 rfl (by kernel_rfl) (zat (by kernel_rfl)) ?_
 simp -implicitDefEqProofs only [go_sem, Tryz.results155]
 refine zae (fun k : Nat => hd [(1, .one (.bx 1 0)), (2, .one (.bx 2 0)), (3, .one (.bx 3 0)), (4, vI k)] [(1, [.t (.str a.name), .t (tmS a.args)]), (2, [.t (.str []), .nl 2]), (3, [.t (.str a.name), .ow 3000 0])] [(3000, ⟨true, 2, (a.args.take k).map tmC, 0, true⟩)]) (fun k => k <= a.args.length) (fun k => a.args.length - k) 0 (zac ?_) ?_ ?_
 ·simp -implicitDefEqProofs only [go_sem]
 ·simp
 ·intro k hk
  by_cases hlt : k < a.args.length
  ·simp -implicitDefEqProofs only [go_sem, hlt]
   refine drawn (by kernel_rfl) ?_
   have hmin : min k a.args.length <= 4294967295 := by omega
   simp -implicitDefEqProofs only [go_sem, zag, hlt, zaa]
   refine zaz (H a.args[k] (List.getElem_mem hlt)) (by simp -implicitDefEqProofs only [go_sem, zaa]) ?_
   simp -implicitDefEqProofs only [go_sem, zaa]
   refine zbl (by simp -implicitDefEqProofs only [go_sem]) ?_
   simp -implicitDefEqProofs only [go_sem]
   refine zh3 true (by simp -implicitDefEqProofs only [go_sem, ne_eq, List.length_map, List.length_take, hmin]) ?_
   simp -implicitDefEqProofs only [go_sem, ne_eq, List.length_map, List.length_take, hmin]
   refine ⟨by kernel_rfl, k + 1, hlt, by omega, zac ?_⟩
   simp -implicitDefEqProofs only [go_sem]
   rw [zao (by omega), List.take_succ_eq_append_getElem hlt, List.map_append, List.map_singleton]
   simp only [zaa]
   trivial
  ·have ht : a.args.take k = a.args := List.take_of_length_le (by omega)
   simp -implicitDefEqProofs only [go_sem, hlt, ht]
theorem zgn : ∀ a : Tm, a.wt <= 1048576 -> FC Tryz.prog 166 [tmD a] [tmD a] :=
 za7 fun n xs ih hs => by
  obtain ⟨h1, h2⟩ := Tm.wt_args hs
  exact zo9 (.mk n xs) (zm5 xs (fun x hx => ih x hx (h2 x hx)) h1)
theorem zp9 : ∀ a : Tm, a.wt <= 1048576 -> FC Tryz.prog 155 [tmD a] [tmD a] :=
 za7 fun n xs ih hs => by
  obtain ⟨h1, h2⟩ := Tm.wt_args hs
  exact qbl (.mk n xs) (fun x hx => ih x hx (h2 x hx)) h1
set_option maxHeartbeats 1000000 in
theorem qej (a : Fm) (H : ∀ x ∈ a.parts, FC Tryz.prog 152 [fmD x] [fmD x]) (h0 : a.atom.wt <= 1048576) (hs : a.parts.length <= 1048576) : FC Tryz.prog 152 [fmD a] [fmD a] := by
 simp only [fmD, zab a]
 refine zah Tryz.call152 Tryz.func152 rfl (by kernel_rfl) (zat (by kernel_rfl)) ?_
 simp -implicitDefEqProofs only [go_sem, Tryz.results152]
 refine drawn (by kernel_rfl) ?_
 simp -implicitDefEqProofs only [go_sem]
 refine zaz (zp9 a.atom h0) (by simp -implicitDefEqProofs only [go_sem, zaa]) ?_
 simp -implicitDefEqProofs only [go_sem, zaa]
 refine ⟨by kernel_rfl, ?_⟩
 refine zae (fun k : Nat => hd [(1, .one (.bx 1 0)), (2, .one (.bx 2 0)), (3, .one (.bx 3 0)), (4, vI k)] [(1, [.t (.int .i64 a.op), .t (.str a.atom.name), .t (tmS a.atom.args), .t (.str a.var), .t (fmS a.parts)]), (2, [.t (.int .i64 0), .t (.str []), .nl 2, .t (.str []), .nl 5]), (3, [.t (.int .i64 a.op), .t (.str a.atom.name), .ow 289 0, .t (.str a.var), .ow 3000 0])]
  [(289, ⟨true, 2, a.atom.args.map tmC, 0, true⟩), (3000, ⟨true, 5, (a.parts.take k).map fmC, 0, true⟩)]) (fun k => k <= a.parts.length) (fun k => a.parts.length - k) 0 (zac ?_) ?_ ?_
 ·simp -implicitDefEqProofs only [go_sem]
 ·simp
 ·intro k hk
  by_cases hlt : k < a.parts.length
  ·simp -implicitDefEqProofs only [go_sem, hlt]
   refine drawn (by kernel_rfl) ?_
   have hmin : min k a.parts.length <= 4294967295 := by omega
   simp -implicitDefEqProofs only [go_sem, zag, hlt, zab]
   refine zaz (H a.parts[k] (List.getElem_mem hlt)) (by simp -implicitDefEqProofs only [go_sem, zab]) ?_
   simp -implicitDefEqProofs only [go_sem, zab]
   refine zbl (by simp -implicitDefEqProofs only [go_sem]) ?_
   simp -implicitDefEqProofs only [go_sem]
   refine zh3 true (by simp -implicitDefEqProofs only [go_sem, ne_eq, List.length_map, List.length_take, hmin]) ?_
   simp -implicitDefEqProofs only [go_sem, ne_eq, List.length_map, List.length_take, hmin]
   refine ⟨by kernel_rfl, k + 1, hlt, by omega, zac ?_⟩
   simp -implicitDefEqProofs only [go_sem]
   rw [zao (by omega), List.take_succ_eq_append_getElem hlt, List.map_append, List.map_singleton]
   simp only [zab]
   trivial
  ·have ht : a.parts.take k = a.parts := List.take_of_length_le (by omega)
   simp -implicitDefEqProofs only [go_sem, hlt, ht]
theorem zqf : ∀ a : Fm, a.wt <= 1048576 -> FC Tryz.prog 152 [fmD a] [fmD a] :=
 za6 fun o t v ps ih hs => by
  obtain ⟨h1, h2, h3⟩ := Fm.wt_parts hs
  exact qej (.mk o t v ps) (fun x hx => ih x hx (h3 x hx)) h1 h2
end Go.Proofs.YtemnhgmgeijkcaaGreat
namespace Go.Proofs.YtemnhgmgeijkcaaGreat
set_option linter.unusedSimpArgs false
set_option linter.unusedVariables false
set_option linter.unusedSectionVars false
set_option maxRecDepth 4000
open Go.RowKit
theorem zh0 (ss : List Str) (hl : ss.length <= 1099511627776) : IC Tryz.prog 118 [] (.one (zb0 ss)) [] (.one (zb0 (zdk ss))) [] :=
 qgt Tryz.call118 (fun blk off cap ss w h1 h2 h3 => Any.slices_Sort_string Tryz.lays190 blk off cap ss w h1 h2 h3) (fun p cap w => Any.slices_Sort_string_none Tryz.lays190 p cap w) ss (by omega)
theorem qh9 {P : Program} {t : TypeId} {n b : Nat} {z : List C} (h1 : zbf P t = some n) (h2 : zdd P t = some b) (h3 : zdf P t = some z) (h4 : z.length = n) : ∃ i0 zv, P.info? t = some i0 /\ i0.zero = some zv /\ zv.cells.size = n /\ i0.size = n /\ i0.bytes = b := by
 unfold zbf at h1
 unfold zdd at h2
 unfold zdf at h3
 cases hi : P.info? t with
 | none => rw [hi] at h1; cases h1
 | some i =>
  rw [hi] at h1 h2 h3
  simp only [Option.map_some, Option.some.injEq] at h1 h2
  simp only [Option.bind_some] at h3
  cases hz : i.zero with
  | none => rw [hz] at h3; cases h3
  | some zv =>
   rw [hz] at h3
   simp only [Option.map_some, Option.some.injEq] at h3
   refine ⟨i, zv, rfl, hz, ?_, h1, h2⟩
   rw [<- h4, <- h3]; simp
set_option maxHeartbeats 1000000 in
theorem ztz : CloneOf Tryz.prog 120 1 16 := by
 have t22 := Tryz.underlying100
 have q22 : ∀ (w : World) (a : Option Addr) (n c n' c' : Nat), (binOp .eql 100 (.slice a n c) (.slice none n' c')).run Tryz.prog w = .ok (.bool a.isNone) w := fun w a n c n' c' => Lib.run_eql_slice_nil w _ _ a n c n' c' t22
 have u22 : ∀ w, Sem.run Tryz.prog (underlying 100) w = .ok (TypeDesc.slice 9) w := run_underlying t22
 refine ⟨Tryz.call120, fun ad n c news w hl hn hbig hc h1 => ?_, fun n c w => ?_⟩
 ·have A : Aside (∀ j u, news[j]? = some u -> w.cell? (ad.add j) = some u) := hc
  clear hc
  obtain ⟨i0, z, hi, hz0, hzs, hz1, hz2⟩ := qh9 (P := Tryz.prog) (t := 9) (n := 1) (b := 16) (z := [.t (.str [])]) (by kernel_rfl) (by kernel_rfl) (by kernel_rfl) rfl
  go_enter Tryz.func120, Tryz.ntmps120
  go_wp2_with (at_builtin; refine wpList_append_own _ rfl _ _ 100 rfl w.heap.size 9 i0 z 1 16 t22 hi hz0 hz1 hz2 hzs (by decide) _ _ _ rfl (World.ownsRow_made w #[] 0 (Nat.le_refl _) (Nat.zero_le _) (by simp)) ad n c news rfl ?qc1 ?qc2 ?qc3 ?qc4 ?qc5 ?qc6 ?_)
  case qc1 => exact hl
  case qc2 =>
   intro j u hj
   exact Lib.cell?_alloc_some _ (A.out j u hj)
  case qc3 => exact h1
  case qc4 => rw [Nat.zero_add]; exact hn
  case qc5 => rw [Nat.zero_add]; exact hbig
  case qc6 => simp
  intro v' w1 hown hgrow hnil
  go_wp2
  go_ret
  refine ⟨_, v', rfl, by simpa using hown, hnil, ?_⟩
  exact ((Below.refl _ w).alloc (Nat.le_refl _) _).grown hgrow (by simp) (by intro k hk; simp [Value.ownBlock] at hk; omega)
 ·go_enter Tryz.func120, Tryz.ntmps120
  go_wp2
  go_ret
  exact ⟨rfl, rfl⟩
theorem zuf (ss : List Str) : ∀ c ∈ (ss.map fun s => [T.str s]).flatten, c.flat = true := fun c hc => by
 rw [zet] at hc
 obtain ⟨s, _, rfl⟩ := List.mem_map.1 hc
 rfl
theorem zkb (ss : List Str) (hs : ss.length <= 1099511627776) : FC Tryz.prog 120 [.one (zb0 ss)] [.one (zb0 ss)] :=
 qb8 ztz _ (by simp; omega) (zuf ss)
abbrev qa5 (xs : List Int) : T := .sl 1 (xs.map fun s => [.int .i64 s])
theorem zum (xs : List Int) (s : Int) : FC Tryz.prog 258 [.one (qa5 xs), iD s] [iD (qe7 xs s)] := by
 refine zc0 (fun hw => ?_) Tryz.call258
 have hl : xs.length <= 9223372036854775807 := by simpa [zfj, wfT] using hw.1.1
 refine zah Tryz.call258 Tryz.func258 rfl (by kernel_rfl) (zat (by kernel_rfl)) ?_
 simp -implicitDefEqProofs only [go_sem, Tryz.results258]
 refine zae (fun k : Nat => hd [(0, vT (qa5 xs)), (1, vT (.int .i64 s)), (7, vI xs.length), (8, vI k)] [] []) (fun k => k <= xs.length /\ s ∉ xs.take k) (fun k => xs.length - k) 0 (zac ?_) ?_ ?_
 ·simp -implicitDefEqProofs only [go_sem]
 ·simp
 ·intro k ⟨hk, hr⟩
  by_cases hlt : k < xs.length
  ·simp -implicitDefEqProofs only [go_sem, zag, hlt]
   refine ⟨fun h => ?_, fun h => ?_⟩
   ·have e : xs[k] = s := (beq_iff_eq.1 h).symm
    have hm : s ∈ xs := e ▸ List.getElem_mem hlt
    rw [qe7, if_pos (by simpa using hm), znb hlt hr e]
   ·have e : xs[k] ≠ s := fun e => by simp [e] at h
    exact ⟨k + 1, ⟨hlt, zec hlt hr e⟩, by omega, zac (by simp -implicitDefEqProofs only [go_sem]; rw [zao (by omega)])⟩
  ·simp -implicitDefEqProofs only [go_sem, hlt]
   rw [List.take_of_length_le (by omega)] at hr
   rw [qe7, if_neg (by simpa using hr)]
theorem zlt (xs : List Int) (s : Int) : FC Tryz.prog 186 [.one (qa5 xs), iD s] [bD (xs.contains s)] := by
 refine zah Tryz.call186 Tryz.func186 rfl (by kernel_rfl) (zat (by kernel_rfl)) ?_
 simp -implicitDefEqProofs only [go_sem, Tryz.results186]
 refine callF (zum xs s) (by simp -implicitDefEqProofs only [go_sem]) ?_
 simp -implicitDefEqProofs only [go_sem]
 unfold qe7
 cases h : xs.contains s <;> simp
theorem zrr (xs : List Str) (s : Str) : FC Tryz.prog 160 [.one (zb0 xs), sD s] [bD (xs.contains s)] := by
 refine zc0 (fun hw => ?_) Tryz.call160
 have hl : xs.length <= 9223372036854775807 := by simpa [zfj, wfT] using hw.1.1
 refine zah Tryz.call160 Tryz.func160 rfl (by kernel_rfl) (zat (by kernel_rfl)) ?_
 simp -implicitDefEqProofs only [go_sem, Tryz.results160]
 refine zae (fun k : Nat => hd [(0, vT (zb0 xs)), (1, vT (.str s)), (5, vI k)] [] []) (fun k => k <= xs.length /\ s ∉ xs.take k) (fun k => xs.length - k) 0 (zac ?_) ?_ ?_
 ·simp -implicitDefEqProofs only [go_sem]
 ·simp
 ·intro k ⟨hk, hr⟩
  by_cases hlt : k < xs.length
  ·simp -implicitDefEqProofs only [go_sem, zag, hlt]
   refine ⟨fun h => ?_, fun h => ?_⟩
   ·have e : xs[k] = s := by simpa using h
    rw [List.contains_iff_mem.2 (e ▸ List.getElem_mem hlt)]
   ·have e : xs[k] ≠ s := by simpa using h
    exact ⟨k + 1, ⟨hlt, zec hlt hr e⟩, by omega, zac (by simp -implicitDefEqProofs only [go_sem]; rw [zao (by omega)])⟩
  ·simp -implicitDefEqProofs only [go_sem, hlt]
   rw [List.take_of_length_le (by omega)] at hr
   simpa using hr
theorem zc7 {α : Type} {p : α -> Bool} : ∀ {l : List α} {k : Nat}, k <= l.length -> (∀ x ∈ l.take k, p x = true) -> (∀ h : k < l.length, p l[k] = false) -> l.takeWhile p = l.take k /\ l.dropWhile p = l.drop k
 | [], k, hk, _, _ => by simp
 | a :: l, 0, hk, _, h2 => by have := h2 (by simp); simp only [List.getElem_cons_zero] at this; simp [this]
 | a :: l, k + 1, hk, h1, h2 => by
  have ha := h1 a (by simp)
  obtain ⟨e1, e2⟩ := zc7 (l := l) (k := k) (by simpa using hk) (fun x hx => h1 x (by simp [hx])) (fun h => h2 (by simpa using h))
  simp [ha, e1, e2]
theorem qam {l : List Str} {s : Str} {k : Nat} (hk : k <= l.length) (h1 : ∀ x ∈ l.take k, Op.bytesLess x s = true) (h2 : ∀ h : k < l.length, Op.bytesLess l[k] s = false) : zqz l s = if (l.drop k).head? = some s then l else l.take k ++ [s] ++ l.drop k := by
 obtain ⟨e1, e2⟩ := zc7 (p := fun x => Op.bytesLess x s) hk h1 h2
 unfold zqz
 rw [e1, e2]
theorem flR_of {rows : List (List T)} (h : ∀ r ∈ rows, r.all T.flat = true) : flR rows = true := by
 induction rows with
 | nil => rfl
 | cons r rs ih => unfold flR; rw [h r (by simp), ih fun r hr => h r (by simp [hr])]; rfl
theorem zbq (l : List Str) : flR (l.map fun s => [T.str s]) = true := flR_of fun r hr => by obtain ⟨s, _, rfl⟩ := List.mem_map.1 hr; rfl
theorem zbu (k : Nat) (l : List Str) : flR ((l.map fun s => [T.str s]).take k) = true := by rw [<- List.map_take]; exact zbq _
theorem zbt (k : Nat) (l : List Str) : flR ((l.map fun s => [T.str s]).drop k) = true := by rw [<- List.map_drop]; exact zbq _
theorem zbz {α β : Type} (f : α -> β) (l : List α) : (l.map f).take l.length = l.map f := List.take_of_length_le (by simp)
theorem zwg (l : List Str) (s : Str) (hl : l.length <= 2147483648) : GC Tryz.prog 274 [(true, .one (zb0 l)), (false, sD s)] [.one (zb0 (zqz l s))] := by
 refine zyw Tryz.call274 Tryz.func274 rfl (by kernel_rfl) (by simp only [List.length_cons, List.length_nil, Tryz.ntmps274]; omega) (by simp [zb6, T.isPin]) ?_
 simp -implicitDefEqProofs only [go_sem, Tryz.results274]
 refine zae (fun k : Nat => hd [(0, .one (.ow 0 0)), (1, vT (.str s)), (5, vI k)] [] [(0, ⟨true, 1, l.map fun s => [.str s], 0, true⟩)]) (fun k => k <= l.length /\ ∀ x ∈ l.take k, Op.bytesLess x s = true) (fun k => l.length - k) 0 (zac ?_) ?_ ?_
 ·simp -implicitDefEqProofs only [go_sem]
 ·simp
 ·intro k ⟨hk, hr⟩
  have hm1 : min k l.length <= 4294967296 := by omega
  have hm2 : min k l.length <= 4294967295 := by omega
  have hm3 : min k l.length + 1 + (l.length - k) <= 4294967296 := by omega
  by_cases hlt : k < l.length
  ·have hnx : ∀ {b}, Op.bytesLess l[k] s = b -> b = true -> ∀ x ∈ l.take (k + 1), Op.bytesLess x s = true := fun {b} e hb x hx => by
    rw [List.take_succ_eq_append_getElem hlt] at hx
    rcases List.mem_append.1 hx with hx | hx
    ·exact hr x hx
    ·rw [List.mem_singleton.1 hx, e, hb]
   simp -implicitDefEqProofs only [go_sem, zag, hlt]
   refine ⟨fun h => ⟨k + 1, ⟨hlt, hnx rfl h⟩, by omega, zac (by simp -implicitDefEqProofs only [go_sem]; rw [zao (by omega)])⟩, fun h => ?_⟩
   have hp := qam hk hr (fun _ => h)
   have hh : (l.drop k).head? = some l[k] := by rw [List.head?_drop, List.getElem?_eq_getElem hlt]
   refine ⟨fun h2 => ?_, fun h2 => ?_⟩
   ·rw [hp, if_pos (by rw [hh]; simpa using h2)]
   ·rw [if_neg (by rw [hh]; simpa using h2)] at hp
    refine frzD 0 ?_
    simp -implicitDefEqProofs only [go_sem]
    refine drawn (by kernel_rfl) ?_
    simp -implicitDefEqProofs only [go_sem, hk]
    refine zbl (by simp -implicitDefEqProofs only [go_sem, hk]) ?_
    simp -implicitDefEqProofs only [go_sem, hk]
    refine zh3 true (by simp -implicitDefEqProofs only [go_sem, hk, ne_eq, Nat.zero_add, hm1, hm2, hm3, zbu, zbt, zbz, List.length_drop, List.length_take, List.length_append, List.length_map]) ?_
    simp -implicitDefEqProofs only [go_sem, hk, ne_eq, Nat.zero_add, hm1, hm2, hm3, zbu, zbt, zbz, List.length_drop, List.length_take, List.length_append, List.length_map]
    refine zbl (by simp -implicitDefEqProofs only [go_sem, hk]) ?_
    simp -implicitDefEqProofs only [go_sem, hk]
    refine zh3 true (by simp -implicitDefEqProofs only [go_sem, hk, ne_eq, Nat.zero_add, hm1, hm2, hm3, zbu, zbt, zbz, List.length_drop, List.length_take, List.length_append, List.length_map]) ?_
    simp -implicitDefEqProofs only [go_sem, hk, ne_eq, Nat.zero_add, hm1, hm2, hm3, zbu, zbt, zbz, List.length_drop, List.length_take, List.length_append, List.length_map]
    refine zh3 true (by simp -implicitDefEqProofs only [go_sem, hk, ne_eq, Nat.zero_add, hm1, hm2, hm3, zbu, zbt, zbz, List.length_drop, List.length_take, List.length_append, List.length_map]) ?_
    simp -implicitDefEqProofs only [go_sem, hk, ne_eq, Nat.zero_add, hm1, hm2, hm3, zbu, zbt, zbz, List.length_drop, List.length_take, List.length_append, List.length_map]
    refine ⟨by kernel_rfl, ?_⟩
    rw [hp]; simp
  ·simp -implicitDefEqProofs only [go_sem, hlt]
   have hp := qam hk hr (fun h => absurd h hlt)
   rw [if_neg (by rw [List.drop_of_length_le (by omega)]; simp)] at hp
   refine frzD 0 ?_
   simp -implicitDefEqProofs only [go_sem]
   refine drawn (by kernel_rfl) ?_
   simp -implicitDefEqProofs only [go_sem, hk]
   refine zbl (by simp -implicitDefEqProofs only [go_sem, hk]) ?_
   simp -implicitDefEqProofs only [go_sem, hk]
   refine zh3 true (by simp -implicitDefEqProofs only [go_sem, hk, ne_eq, Nat.zero_add, hm1, hm2, hm3, zbu, zbt, zbz, List.length_drop, List.length_take, List.length_append, List.length_map]) ?_
   simp -implicitDefEqProofs only [go_sem, hk, ne_eq, Nat.zero_add, hm1, hm2, hm3, zbu, zbt, zbz, List.length_drop, List.length_take, List.length_append, List.length_map]
   refine zbl (by simp -implicitDefEqProofs only [go_sem, hk]) ?_
   simp -implicitDefEqProofs only [go_sem, hk]
   refine zh3 true (by simp -implicitDefEqProofs only [go_sem, hk, ne_eq, Nat.zero_add, hm1, hm2, hm3, zbu, zbt, zbz, List.length_drop, List.length_take, List.length_append, List.length_map]) ?_
   simp -implicitDefEqProofs only [go_sem, hk, ne_eq, Nat.zero_add, hm1, hm2, hm3, zbu, zbt, zbz, List.length_drop, List.length_take, List.length_append, List.length_map]
   refine zh3 true (by simp -implicitDefEqProofs only [go_sem, hk, ne_eq, Nat.zero_add, hm1, hm2, hm3, zbu, zbt, zbz, List.length_drop, List.length_take, List.length_append, List.length_map]) ?_
   simp -implicitDefEqProofs only [go_sem, hk, ne_eq, Nat.zero_add, hm1, hm2, hm3, zbu, zbt, zbz, List.length_drop, List.length_take, List.length_append, List.length_map]
   refine ⟨by kernel_rfl, ?_⟩
   rw [hp]; simp
end Go.Proofs.YtemnhgmgeijkcaaGreat
namespace Go.Proofs.YtemnhgmgeijkcaaGreat
set_option linter.unusedSimpArgs false
set_option linter.unusedVariables false
set_option linter.unusedSectionVars false
set_option maxRecDepth 4000
open Go.RowKit
theorem qhk {b : UInt8} (h1 : decide ((b.toNat : Int) < 65) = false) (h2 : decide ((90 : Int) < b.toNat) = false) : zi3 b = true := by
 simp [zi3] at *; omega
theorem qbg {b : UInt8} (h1 : decide ((b.toNat : Int) < 65) = true) : zi3 b = false := by
 simp [zi3] at *; omega
theorem qcs {b : UInt8} (h2 : decide ((90 : Int) < b.toNat) = true) : zi3 b = false := by
 simp [zi3] at *; omega
theorem qbt {b : UInt8} (h1 : decide ((b.toNat : Int) < 97) = false) (h2 : decide ((122 : Int) < b.toNat) = false) : zew b = true := by
 simp [zew] at *; omega
theorem zxi {b : UInt8} (h1 : decide ((b.toNat : Int) < 97) = true) : zew b = false := by
 simp [zew] at *; omega
theorem zxu {b : UInt8} (h2 : decide ((122 : Int) < b.toNat) = true) : zew b = false := by
 simp [zew] at *; omega
theorem zqs {s : Str} (h : 0 < s.length) : zpg s = (zi3 (s.getD 0 0) && (s.drop 1).all zk9) := by
 cases s
 ·exact absurd h (by simp)
 ·rfl
theorem zl8 {s : Str} (h : 0 < s.length) : zix s = (zew (s.getD 0 0) && (s.drop 1).all zls) := by
 cases s
 ·exact absurd h (by simp)
 ·rfl
theorem zfi (s : Str) : FC Tryz.prog 225 [sD s] [bD (zav s)] := by
 refine zc0 (fun hw => ?_) Tryz.call225
 have hl : s.length <= 9223372036854775807 := by simpa [zfj, wfT] using hw.1
 refine zah Tryz.call225 Tryz.func225 rfl (by kernel_rfl) (zat (by kernel_rfl)) ?_
 simp -implicitDefEqProofs only [go_sem, Tryz.results225]
 refine callF (qe5 s.length 1 4) (by simp -implicitDefEqProofs only [go_sem]) ?_
 simp -implicitDefEqProofs only [go_sem]
 by_cases hb : inB s.length 1 4 = true
 ·have hp : 0 < s.length := by simp [inB] at hb; omega
  have hp' : (0 : Int) < s.length := by omega
  have he := zqs hp
  refine ⟨fun h => ⟨hp', fun h1 => ⟨hp', fun h2 => ?_, fun h2 => ?_⟩, fun h1 => ?_⟩, fun h => by simp [hb] at h⟩
  ·rw [zav, he, qcs h2]; rfl
  ·rw [qhk h1 h2, Bool.true_and] at he
   refine zae (fun k : Nat => hd [(0, vT (.str s)), (3, vI k)] [] []) (fun k => k <= s.length /\ zpg s = (s.drop k).all zk9) (fun k => s.length - k) 1 (zac ?_) ?_ ?_
   ·simp -implicitDefEqProofs only [go_sem]
   ·exact ⟨hp, he⟩
   ·intro k ⟨hk, hr⟩
    by_cases hlt : k < s.length
    ·have hg : s.getD k 0 = s[k] := by simp [List.getD, hlt]
     rw [List.drop_eq_getElem_cons hlt, List.all_cons] at hr
     simp -implicitDefEqProofs only [go_sem, hlt]
     simp only [hg]
     refine callF (zn6 s[k]) (by simp -implicitDefEqProofs only [go_sem]) ?_
     simp -implicitDefEqProofs only [go_sem]
     refine ⟨fun h => ?_, fun h => ⟨k + 1, ⟨hlt, ?_⟩, by omega, zac (by simp -implicitDefEqProofs only [go_sem]; rw [zao (by omega)])⟩⟩
     ·have : zk9 s[k] = false := by simpa using h
      rw [zav, hr, this]; rfl
     ·have : zk9 s[k] = true := by simpa using h
      rw [hr, this]; rfl
    ·simp -implicitDefEqProofs only [go_sem, hlt]
     rw [zav, hr, List.drop_of_length_le (by omega), hb]; rfl
  ·rw [zav, he, qbg h1]; rfl
 ·have hb' : inB s.length 1 4 = false := by simpa using hb
  refine ⟨fun h => by simp [hb'] at h, fun h => ?_⟩
  rw [zav, hb', Bool.and_false]
set_option maxHeartbeats 1000000 in
theorem zjb (s : Str) : FC Tryz.prog 240 [sD s] [bD (zch s)] := by
 refine zc0 (fun hw => ?_) Tryz.call240
 have hl : s.length <= 9223372036854775807 := by simpa [zfj, wfT] using hw.1
 refine zah Tryz.call240 Tryz.func240 rfl (by kernel_rfl) (zat (by kernel_rfl)) ?_
 simp -implicitDefEqProofs only [go_sem, Tryz.results240]
 refine callF (qe5 s.length 1 6) (by simp -implicitDefEqProofs only [go_sem]) ?_
 simp -implicitDefEqProofs only [go_sem]
 by_cases hb : inB s.length 1 6 = true
 ·have hp : 0 < s.length := by simp [inB] at hb; omega
  have hp' : (0 : Int) < s.length := by omega
  have he := zl8 hp
  refine ⟨fun h => ⟨hp', fun h1 => ⟨hp', fun h2 => ?_, fun h2 => ?_⟩, fun h1 => ?_⟩, fun h => by simp [hb] at h⟩
  ·rw [zch, he, zxu h2]; rfl
  ·rw [qbt h1 h2, Bool.true_and] at he
   have leaf : ∀ l, l ∈ zqg -> (s == l) = true -> T.bool false = T.bool (zch s) := fun l hl e => by
    have : zqg.contains s = true := by rw [List.contains_iff_mem, beq_iff_eq.1 e]; exact hl
    rw [zch, this, Bool.not_true, Bool.and_false]
   refine ⟨fun e => ⟨fun _ => leaf _ (by simp [zqg]) e, fun e' => absurd (e.symm.trans e') (by simp)⟩, fun n1 => ?_⟩
   refine ⟨fun e => ⟨fun _ => leaf _ (by simp [zqg]) e, fun e' => absurd (e.symm.trans e') (by simp)⟩, fun n2 => ?_⟩
   refine ⟨fun e => ⟨fun _ => leaf _ (by simp [zqg]) e, fun e' => absurd (e.symm.trans e') (by simp)⟩, fun n3 => ?_⟩
   refine ⟨fun e => ⟨fun _ => leaf _ (by simp [zqg]) e, fun e' => absurd (e.symm.trans e') (by simp)⟩, fun n4 => ?_⟩
   refine ⟨fun e => ⟨fun _ => leaf _ (by simp [zqg]) e, fun e' => absurd (e.symm.trans e') (by simp)⟩, fun n5 => ?_⟩
   refine ⟨fun e => ⟨fun _ => leaf _ (by simp [zqg]) e, fun e' => absurd (e.symm.trans e') (by simp)⟩, fun n6 => ?_⟩
   refine ⟨fun e => ⟨fun _ => leaf _ (by simp [zqg]) e, fun e' => absurd (e.symm.trans e') (by simp)⟩, fun n7 => ?_⟩
   refine ⟨fun e => leaf _ (by simp [zqg]) e, fun n8 => ?_⟩
   have hnc : zqg.contains s = false := by
    simp only [beq_eq_false_iff_ne, ne_eq] at n1 n2 n3 n4 n5 n6 n7 n8
    rw [Bool.eq_false_iff, ne_eq, List.contains_iff_mem]
    simp only [zqg, List.mem_cons, List.not_mem_nil, or_false, not_or]
    exact ⟨n1, n2, n3, n4, n5, n6, n7, n8⟩
   refine zae (fun k : Nat => hd [(0, vT (.str s)), (3, vI k)] [] []) (fun k => k <= s.length /\ zix s = (s.drop k).all zls) (fun k => s.length - k) 1 (zac ?_) ?_ ?_
   ·simp -implicitDefEqProofs only [go_sem]
   ·exact ⟨hp, he⟩
   ·intro k ⟨hk, hr⟩
    by_cases hlt : k < s.length
    ·have hg : s.getD k 0 = s[k] := by simp [List.getD, hlt]
     rw [List.drop_eq_getElem_cons hlt, List.all_cons] at hr
     simp -implicitDefEqProofs only [go_sem, hlt]
     simp only [hg]
     refine callF (zn6 s[k]) (by simp -implicitDefEqProofs only [go_sem]) ?_
     simp -implicitDefEqProofs only [go_sem]
     simp only [hg]
     refine ⟨fun h => ⟨hlt, fun h' => ?_, fun h' => ⟨k + 1, ⟨hlt, ?_⟩, by omega, zac (by simp -implicitDefEqProofs only [go_sem]; rw [zao (by omega)])⟩⟩, fun h => ⟨k + 1, ⟨hlt, ?_⟩, by omega, zac (by simp -implicitDefEqProofs only [go_sem]; rw [zao (by omega)])⟩⟩
     ·have : zls s[k] = false := by
       simp [zls] at h ⊢
       refine ⟨h, fun e => ?_⟩
       rw [e] at h'
       simp at h'
      rw [zch, hr, this]; rfl
     ·have : zls s[k] = true := by
       have := qfz (b := s[k]) (n := 95) (by omega)
       simp [zls] at h' ⊢
       right
       simpa [h'] using this
      rw [hr, this]; rfl
     ·have : zls s[k] = true := by simp [zls]; simp at h; simp [h]
      rw [hr, this]; rfl
    ·simp -implicitDefEqProofs only [go_sem, hlt]
     rw [zch, hr, List.drop_of_length_le (by omega), hb, hnc]; rfl
  ·rw [zch, he, zxi h1]; rfl
 ·have hb' : inB s.length 1 6 = false := by simpa using hb
  refine ⟨fun h => by simp [hb'] at h, fun h => ?_⟩
  rw [zch, hb', Bool.and_false]; rfl
end Go.Proofs.YtemnhgmgeijkcaaGreat
namespace Go.Proofs.YtemnhgmgeijkcaaGreat
set_option linter.unusedSimpArgs false
set_option linter.unusedVariables false
set_option linter.unusedSectionVars false
set_option maxRecDepth 4000
open Go.RowKit
def Tm.nodes : Tm -> Nat := Tm.fold fun _ _ rs => 1 + rs.sum
theorem Tm.nodes_eq (a : Tm) : a.nodes = 1 + (a.args.map Tm.nodes).sum := Tm.fold_eq _ a
def Tm.depth : Tm -> Nat := Tm.fold fun _ _ rs => rs.foldl max 0 + 1
theorem Tm.depth_eq (a : Tm) : a.depth = (a.args.map Tm.depth).foldl max 0 + 1 := Tm.fold_eq _ a
theorem zfa : ∀ a : Tm, a.nodes <= 1 + a.wt := by
 refine za7 fun n xs ih => ?_
 rw [Tm.nodes_eq, Tm.wt_eq]
 show 1 + (xs.map Tm.nodes).sum <= 1 + (n.length + xs.length + (xs.map Tm.wt).sum)
 have : (xs.map Tm.nodes).sum <= xs.length + (xs.map Tm.wt).sum := by
  clear n
  induction xs with
  | nil => simp
  | cons x xs ih2 =>
   have h1 := ih x (by simp)
   have h2 := ih2 fun y hy => ih y (by simp [hy])
   simp only [List.map_cons, List.sum_cons, List.length_cons]
   omega
 omega
theorem zgy {B : Nat} : ∀ (xs : List Nat) (m : Nat), m <= B -> (∀ x ∈ xs, x <= B) -> xs.foldl max m <= B
 | [], m, h, _ => h
 | x :: xs, m, h, h2 => zgy xs (max m x) (by have := h2 x (by simp); omega) fun y hy => h2 y (by simp [hy])
theorem zhs : ∀ a : Tm, a.depth <= a.nodes := by
 refine za7 fun n xs ih => ?_
 rw [Tm.nodes_eq, Tm.depth_eq]
 show (xs.map Tm.depth).foldl max 0 + 1 <= 1 + (xs.map Tm.nodes).sum
 have := zgy (B := (xs.map Tm.nodes).sum) (xs.map Tm.depth) 0 (by omega) fun d hd => by
  obtain ⟨x, hx, rfl⟩ := List.mem_map.1 hd
  exact Nat.le_trans (ih x hx) (zbe Tm.nodes xs x hx)
 omega
def szL (lim : Int) : Int -> List Int -> Int
 | n, [] => n
 | n, r :: rs => if n > lim then n else szL lim (n + r) rs
def zep : Tm -> Int := Tm.fold fun _ _ rs => szL 30 1 rs
theorem zrw (a : Tm) : zep a = szL 30 1 (a.args.map zep) := Tm.fold_eq _ a
theorem zkp {α : Type} (f : α -> Int) (g : α -> Nat) (lim : Int) : ∀ (xs : List α) (n : Int), 0 <= n -> (∀ x ∈ xs, 1 <= f x /\ f x <= g x /\ (f x <= lim -> f x = g x)) -> szL lim n (xs.map f) <= n + (xs.map g).sum /\ n <= szL lim n (xs.map f) /\ (szL lim n (xs.map f) <= lim -> szL lim n (xs.map f) = n + (xs.map g).sum)
 | [], n, _, _ => by simp [szL]
 | x :: xs, n, hn, h => by
  obtain ⟨h1, h2, h3⟩ := h x (by simp)
  obtain ⟨k1, k2, k3⟩ := zkp f g lim xs (n + f x) (by omega) fun y hy => h y (by simp [hy])
  simp only [List.map_cons, szL, List.sum_cons]
  split
  ·refine ⟨by omega, by omega, fun hh => by omega⟩
  ·refine ⟨by omega, by omega, fun hh => ?_⟩
   have := k3 hh
   rw [this]
   have : f x = g x := h3 (by omega)
   omega
theorem zjt : ∀ a : Tm, 1 <= zep a /\ zep a <= a.nodes /\ (zep a <= 30 -> zep a = a.nodes) := by
 refine za7 fun n xs ih => ?_
 rw [zrw, Tm.nodes_eq]
 show 1 <= szL 30 1 (xs.map zep) /\ szL 30 1 (xs.map zep) <= ((1 + (xs.map Tm.nodes).sum : Nat) : Int) /\ _
 obtain ⟨k1, k2, k3⟩ := zkp zep Tm.nodes 30 xs 1 (by omega) ih
 refine ⟨k2, by omega, fun h => ?_⟩
 have := k3 h
 show szL 30 1 (xs.map zep) = _
 rw [this]; show _ = ((1 + (xs.map Tm.nodes).sum : Nat) : Int); omega
theorem qdn (a : Tm) : decide (zep a <= 30) = decide (a.nodes <= 30) := by
 obtain ⟨h1, h2, h3⟩ := zjt a
 rw [decide_eq_decide]
 exact ⟨fun h => by have := h3 h; omega, fun h => by omega⟩
def qax {α : Type} (f : α -> Nat) (xs : List α) (k : Nat) : Nat := ((xs.drop k).map f).sum
theorem zge {α : Type} (f : α -> Nat) (xs : List α) : qax f xs 0 = (xs.map f).sum := by simp [qax]
theorem zlb {α : Type} (f : α -> Nat) (xs : List α) (k : Nat) (h : k < xs.length) : qax f xs k = f xs[k] + qax f xs (k + 1) := by
 unfold qax
 rw [List.drop_eq_getElem_cons h, List.map_cons, List.sum_cons]
set_option maxHeartbeats 400000 in
theorem qg0 (a : Tm) (hs : a.wt <= 1099511627776) (H : ∀ x ∈ a.args, FC Tryz.prog 259 [tmD x] [iD (zep x)]) : FC Tryz.prog 259 [tmD a] [iD (zep a)] := by
 refine zc0 (fun hw => ?_) Tryz.call259
 have hl : a.args.length <= 9223372036854775807 := by rw [Tm.wt_eq] at hs; omega
 have hn := zfa a
 have hN := a.nodes_eq
 simp only [tmD, zaa]
 refine zah Tryz.call259 Tryz.func259 rfl (by kernel_rfl) (zat (by kernel_rfl)) ?_
 simp -implicitDefEqProofs only [go_sem, Tryz.results259]
 refine zae (fun p : Nat × Int => hd [(3, vI p.2), (7, vT (tmS a.args)), (8, vI a.args.length), (9, vI p.1)] [] []) (fun p => p.1 <= a.args.length /\ zep a = szL 30 p.2 ((a.args.drop p.1).map zep) /\ 1 <= p.2 /\ p.2 + qax Tm.nodes a.args p.1 <= a.nodes) (fun p => a.args.length - p.1) (0, 1) (zac ?_) ?_ ?_
 ·simp -implicitDefEqProofs only [go_sem]
 ·exact ⟨by simp, by rw [zrw]; rfl, by omega, by rw [zge]; omega⟩
 ·intro ⟨k, n⟩ ⟨hk, hr, h1, h2⟩
  simp only at hk hr h1 h2
  by_cases hlt : k < a.args.length
  ·have hd := zlb Tm.nodes a.args k hlt
   obtain ⟨s1, s2, s3⟩ := zjt a.args[k]
   rw [List.drop_eq_getElem_cons hlt, List.map_cons, szL] at hr
   simp -implicitDefEqProofs only [go_sem, zag, hlt, zaa]
   refine ⟨fun h => ?_, fun h => ?_⟩
   ·rw [hr, if_pos (by simpa using h)]
   ·refine callF (H a.args[k] (List.getElem_mem hlt)) (by simp -implicitDefEqProofs only [go_sem, zaa]) ?_
    simp -implicitDefEqProofs only [go_sem, zaa]
    rw [if_neg (by simpa using h)] at hr
    exact ⟨(k + 1, n + zep a.args[k]), ⟨hlt, hr, by simp only; omega, by simp only; omega⟩, by simp only; omega, zac (by simp -implicitDefEqProofs only [go_sem]; rw [zao (by omega), zbk (by omega) (by omega)]; exact ⟨rfl, rfl⟩)⟩
  ·simp -implicitDefEqProofs only [go_sem, hlt]
   rw [hr, List.drop_of_length_le (by omega)]; rfl
theorem size_c : ∀ a : Tm, a.wt <= 1099511627776 -> FC Tryz.prog 259 [tmD a] [iD (zep a)] :=
 za7 fun n xs ih hs => qg0 (.mk n xs) hs fun x hx => ih x hx (by
  have := Tm.wt_eq (.mk n xs)
  have := zbe Tm.wt xs x hx
  simp only [Tm.args] at *; omega)
set_option maxHeartbeats 400000 in
theorem qcd (a : Tm) (hs : a.wt <= 1099511627776) (H : ∀ x ∈ a.args, FC Tryz.prog 260 [tmD x] [iD x.depth]) : FC Tryz.prog 260 [tmD a] [iD a.depth] := by
 have hl : a.args.length <= 9223372036854775807 := by rw [Tm.wt_eq] at hs; omega
 have hn := zfa a
 have hdn := zhs a
 have hD := a.depth_eq
 simp only [tmD, zaa]
 refine zah Tryz.call260 Tryz.func260 rfl (by kernel_rfl) (zat (by kernel_rfl)) ?_
 simp -implicitDefEqProofs only [go_sem, Tryz.results260]
 refine zae (fun p : Nat × Nat => hd [(3, vI p.2), (7, vT (tmS a.args)), (8, vI a.args.length), (9, vI p.1)] [] []) (fun p => p.1 <= a.args.length /\ a.depth = ((a.args.drop p.1).map Tm.depth).foldl max p.2 + 1) (fun p => a.args.length - p.1) (0, 0) (zac ?_) ?_ ?_
 ·simp -implicitDefEqProofs only [go_sem]
 ·exact ⟨by simp, hD⟩
 ·intro ⟨k, n⟩ ⟨hk, hr⟩
  simp only at hk hr
  by_cases hlt : k < a.args.length
  ·rw [List.drop_eq_getElem_cons hlt, List.map_cons, List.foldl_cons] at hr
   simp -implicitDefEqProofs only [go_sem, zag, hlt, zaa]
   refine callF (H a.args[k] (List.getElem_mem hlt)) (by simp -implicitDefEqProofs only [go_sem, zaa]) ?_
   simp -implicitDefEqProofs only [go_sem, zaa]
   exact ⟨(k + 1, max n a.args[k].depth), ⟨hlt, hr⟩, by simp only; omega, zac (by simp -implicitDefEqProofs only [go_sem]; rw [zao (by omega)]; exact ⟨by congr 1; omega, rfl⟩)⟩
  ·simp -implicitDefEqProofs only [go_sem, hlt]
   rw [List.drop_of_length_le (by omega)] at hr
   simp only [List.map_nil, List.foldl_nil] at hr
   rw [hr, zao (by omega)]
theorem qf0 : ∀ a : Tm, a.wt <= 1099511627776 -> FC Tryz.prog 260 [tmD a] [iD a.depth] :=
 za7 fun n xs ih hs => qcd (.mk n xs) hs fun x hx => ih x hx (by
  have := Tm.wt_eq (.mk n xs)
  have := zbe Tm.wt xs x hx
  simp only [Tm.args] at *; omega)
def zcj (a : Tm) : Bool := decide (a.nodes <= 30) && decide (a.depth <= 8)
theorem zm2 (a : Tm) (hs : a.wt <= 1099511627776) : FC Tryz.prog 188 [tmD a] [bD (zcj a)] := by
 simp only [tmD, zaa]
 refine zah Tryz.call188 Tryz.func188 rfl (by kernel_rfl) (zat (by kernel_rfl)) ?_
 simp -implicitDefEqProofs only [go_sem, Tryz.results188]
 refine callF (size_c a hs) (by simp -implicitDefEqProofs only [go_sem, zaa]) ?_
 simp -implicitDefEqProofs only [go_sem, zaa]
 rw [qdn]
 refine ⟨fun h => ?_, fun h => ?_⟩
 ·refine callF (qf0 a hs) (by simp -implicitDefEqProofs only [go_sem, zaa]) ?_
  simp -implicitDefEqProofs only [go_sem, zaa]
  rw [zcj, h, Bool.true_and]
  congr 1
  rw [decide_eq_decide]; omega
 ·rw [zcj, h]; rfl
end Go.Proofs.YtemnhgmgeijkcaaGreat
namespace Go.Proofs.YtemnhgmgeijkcaaGreat
set_option linter.unusedSimpArgs false
set_option linter.unusedVariables false
set_option linter.unusedSectionVars false
set_option maxRecDepth 4000
open Go.RowKit
theorem qdw (σ : St) (caps : List T) : VDs σ (caps.map fun t => .one (.t t)) (caps.map .one) = True := by
 induction caps with
 | nil => simp [VDs]
 | cons t ts ih => rw [List.map_cons, List.map_cons, zq9, ih]; simp [qfj, CT_t]
attribute [go_sem] qdw
def zt1 {α : Type} (xs : List α) (p : α -> Bool) : Int := if xs.any p then xs.findIdx p else -1
theorem ze6 {α : Type} {xs : List α} {p : α -> Bool} {k : Nat} (hk : k < xs.length) (hn : ∀ x ∈ xs.take k, p x = false) (h : p xs[k] = true) : zt1 xs p = k := by
 have ha : xs.any p = true := List.any_eq_true.2 ⟨xs[k], List.getElem_mem hk, h⟩
 have hf : xs.findIdx p = k := (List.findIdx_eq hk).2 ⟨h, fun j hj => hn _ (by
  rw [List.mem_take_iff_getElem]; exact ⟨j, by omega, rfl⟩)⟩
 rw [zt1, if_pos ha, hf]
theorem ziv {α : Type} {xs : List α} {p : α -> Bool} (hn : ∀ x ∈ xs, p x = false) : zt1 xs p = -1 := by
 have ha : xs.any p = false := by rw [List.any_eq_false]; exact fun x hx => by simp [hn x hx]
 rw [zt1, ha]; rfl
theorem zr8 {α : Type} (xs : List α) (p : α -> Bool) : decide (0 <= zt1 xs p) = xs.any p := by
 unfold zt1
 cases xs.any p <;> simp
theorem zed {α : Type} {xs : List α} {p : α -> Bool} {k : Nat} (hk : k < xs.length) (hn : ∀ x ∈ xs.take k, p x = false) (h : p xs[k] = false) : ∀ x ∈ xs.take (k + 1), p x = false := by
 rw [List.take_succ_eq_append_getElem hk]
 intro x hx
 rcases List.mem_append.1 hx with hx | hx
 ·exact hn x hx
 ·rw [List.mem_singleton.1 hx]; exact h
theorem zev (xs : List Tm) (p : Tm -> Bool) (g : FuncId) (caps : List T) (H : ∀ x ∈ xs, FC Tryz.prog g (tmD x :: caps.map .one) [bD (p x)]) : FC Tryz.prog 122 [.one (tmS xs), .one (.fn g caps)] [iD (zt1 xs p)] := by
 refine zc0 (fun hw => ?_) Tryz.call122
 have hl : xs.length <= 9223372036854775807 := by simpa [zfj, wfT] using hw.1.1
 refine zah Tryz.call122 Tryz.func122 rfl (by kernel_rfl) (zat (by kernel_rfl)) ?_
 simp -implicitDefEqProofs only [go_sem, Tryz.results122]
 refine zae (fun k : Nat => hd [(0, vT (tmS xs)), (1, vT (.fn g caps)), (7, vI xs.length), (8, vI k)] [] []) (fun k => k <= xs.length /\ ∀ x ∈ xs.take k, p x = false) (fun k => xs.length - k) 0 (zac ?_) ?_ ?_
 ·simp -implicitDefEqProofs only [go_sem]
 ·simp
 ·intro k ⟨hk, hr⟩
  by_cases hlt : k < xs.length
  ·simp -implicitDefEqProofs only [go_sem, zag, hlt, zaa]
   refine callF (H xs[k] (List.getElem_mem hlt)) (by simp -implicitDefEqProofs only [go_sem, zaa]) ?_
   simp -implicitDefEqProofs only [go_sem, zaa]
   refine ⟨fun h => ?_, fun h => ⟨k + 1, ⟨hlt, zed hlt hr h⟩, by omega, zac (by simp -implicitDefEqProofs only [go_sem]; rw [zao (by omega)])⟩⟩
   rw [ze6 hlt hr h]
  ·simp -implicitDefEqProofs only [go_sem, hlt]
   rw [List.take_of_length_le (by omega)] at hr
   rw [ziv hr]
theorem zcl (xs : List Tm) (p : Tm -> Bool) (g : FuncId) (caps : List T) (H : ∀ x ∈ xs, FC Tryz.prog g (tmD x :: caps.map .one) [bD (p x)]) : FC Tryz.prog 66 [.one (tmS xs), .one (.fn g caps)] [bD (xs.any p)] := by
 refine zah Tryz.call66 Tryz.func66 rfl (by kernel_rfl) (zat (by kernel_rfl)) ?_
 simp -implicitDefEqProofs only [go_sem, Tryz.results66]
 refine callF (zev xs p g caps H) (by simp -implicitDefEqProofs only [go_sem]) ?_
 simp -implicitDefEqProofs only [go_sem]
 rw [zr8]
theorem zfr (xs : List Fm) (p : Fm -> Bool) (g : FuncId) (caps : List T) (H : ∀ x ∈ xs, FC Tryz.prog g (fmD x :: caps.map .one) [bD (p x)]) : FC Tryz.prog 202 [.one (fmS xs), .one (.fn g caps)] [iD (zt1 xs p)] := by
 refine zc0 (fun hw => ?_) Tryz.call202
 have hl : xs.length <= 9223372036854775807 := by simpa [zfj, wfT] using hw.1.1
 refine zah Tryz.call202 Tryz.func202 rfl (by kernel_rfl) (zat (by kernel_rfl)) ?_
 simp -implicitDefEqProofs only [go_sem, Tryz.results202]
 refine zae (fun k : Nat => hd [(0, vT (fmS xs)), (1, vT (.fn g caps)), (7, vI xs.length), (8, vI k)] [] []) (fun k => k <= xs.length /\ ∀ x ∈ xs.take k, p x = false) (fun k => xs.length - k) 0 (zac ?_) ?_ ?_
 ·simp -implicitDefEqProofs only [go_sem]
 ·simp
 ·intro k ⟨hk, hr⟩
  by_cases hlt : k < xs.length
  ·simp -implicitDefEqProofs only [go_sem, zag, hlt, zab, zaa]
   refine callF (H xs[k] (List.getElem_mem hlt)) (by simp -implicitDefEqProofs only [go_sem, zab, zaa]) ?_
   simp -implicitDefEqProofs only [go_sem, zab, zaa]
   refine ⟨fun h => ?_, fun h => ⟨k + 1, ⟨hlt, zed hlt hr h⟩, by omega, zac (by simp -implicitDefEqProofs only [go_sem]; rw [zao (by omega)])⟩⟩
   rw [ze6 hlt hr h]
  ·simp -implicitDefEqProofs only [go_sem, hlt]
   rw [List.take_of_length_le (by omega)] at hr
   rw [ziv hr]
theorem zar (xs : List Fm) (p : Fm -> Bool) (g : FuncId) (caps : List T) (H : ∀ x ∈ xs, FC Tryz.prog g (fmD x :: caps.map .one) [bD (p x)]) : FC Tryz.prog 140 [.one (fmS xs), .one (.fn g caps)] [bD (xs.any p)] := by
 refine zah Tryz.call140 Tryz.func140 rfl (by kernel_rfl) (zat (by kernel_rfl)) ?_
 simp -implicitDefEqProofs only [go_sem, Tryz.results140]
 refine callF (zfr xs p g caps H) (by simp -implicitDefEqProofs only [go_sem]) ?_
 simp -implicitDefEqProofs only [go_sem]
 rw [zr8]
end Go.Proofs.YtemnhgmgeijkcaaGreat
namespace Go.Proofs.YtemnhgmgeijkcaaGreat
set_option linter.unusedSimpArgs false
set_option linter.unusedVariables false
set_option linter.unusedSectionVars false
set_option maxRecDepth 4000
open Go.RowKit
def Tm.names : Tm -> Bool := Tm.fold fun n xs rs => if zav n = true then decide (xs.length = 0) else zch n && decide (xs.length <= 4) && rs.all id
theorem Tm.names_eq (a : Tm) : a.names = if zav a.name = true then decide (a.args.length = 0) else zch a.name && decide (a.args.length <= 4) && a.args.all Tm.names := by
 unfold Tm.names
 rw [Tm.fold_eq]
 simp only [List.all_map]
 rfl
theorem zc2 {α : Type} (xs : List α) (p : α -> Bool) : (!xs.any fun x => !p x) = xs.all p := by
 induction xs with
 | nil => rfl
 | cons x xs ih => simp only [List.any_cons, List.all_cons, Bool.not_or, Bool.not_not, ih]
theorem zpw (a : Tm) (H : ∀ x ∈ a.args, FC Tryz.prog 189 [tmD x] [bD x.names]) : FC Tryz.prog 189 [tmD a] [bD a.names] := by
 have H1 : ∀ x ∈ a.args, FC Tryz.prog 262 [tmD x] [bD (!x.names)] := fun x hx => by
  simp only [tmD, zaa]
  refine zah Tryz.call262 Tryz.func262 rfl (by kernel_rfl) (zat (by kernel_rfl)) ?_
  simp -implicitDefEqProofs only [go_sem, Tryz.results262]
  refine callF (H x hx) (by simp -implicitDefEqProofs only [go_sem, zaa]) ?_
  simp -implicitDefEqProofs only [go_sem, zaa]
 have hN := a.names_eq
 simp only [tmD, zaa]
 refine zah Tryz.call189 Tryz.func189 rfl (by kernel_rfl) (zat (by kernel_rfl)) ?_
 simp -implicitDefEqProofs only [go_sem, Tryz.results189]
 refine callF (ze0 a.name) (by simp -implicitDefEqProofs only [go_sem]) ?_
 simp -implicitDefEqProofs only [go_sem]
 refine ⟨fun h => ?_, fun h => ?_⟩
 ·rw [hN, if_pos h]
  congr 1
  rw [Bool.eq_iff_iff]; simp
 ·rw [h] at hN
  simp only [Bool.false_eq_true, if_false] at hN
  refine callF (zjf a.name) (by simp -implicitDefEqProofs only [go_sem]) ?_
  simp -implicitDefEqProofs only [go_sem]
  refine ⟨fun h1 => ⟨fun h2 => ?_, fun h2 => ?_⟩, fun h1 => ?_⟩
  ·refine callF (zcl a.args (fun x => !x.names) _ [] H1) (by simp -implicitDefEqProofs only [go_sem]) ?_
   simp -implicitDefEqProofs only [go_sem]
   rw [zc2, hN, h1, Bool.true_and]
   rw [show decide (a.args.length <= 4) = true by simp at h2 ⊢; omega]; rfl
  ·rw [hN, h1, Bool.true_and, show decide (a.args.length <= 4) = false by simp at h2 ⊢; omega]; rfl
  ·rw [hN, h1]; rfl
theorem zgk : ∀ a : Tm, FC Tryz.prog 189 [tmD a] [bD a.names] := za7 fun n xs ih => zpw (.mk n xs) ih
def Tm.good (a : Tm) : Bool := zcj a && a.names
theorem zf4 (a : Tm) (hs : a.wt <= 1099511627776) : FC Tryz.prog 123 [tmD a] [bD a.good] := by
 simp only [tmD, zaa]
 refine zah Tryz.call123 Tryz.func123 rfl (by kernel_rfl) (zat (by kernel_rfl)) ?_
 simp -implicitDefEqProofs only [go_sem, Tryz.results123]
 refine callF (zm2 a hs) (by simp -implicitDefEqProofs only [go_sem, zaa]) ?_
 simp -implicitDefEqProofs only [go_sem, zaa]
 refine ⟨fun h => ?_, fun h => ?_⟩
 ·refine callF (zgk a) (by simp -implicitDefEqProofs only [go_sem, zaa]) ?_
  simp -implicitDefEqProofs only [go_sem, zaa]
  rw [Tm.good, h, Bool.true_and]
 ·rw [Tm.good, h, Bool.false_and]
theorem zny (a : Tm) : FC Tryz.prog 284 [tmD a] [bD (a.name == [61])] := by
 simp only [tmD, zaa]
 refine zah Tryz.call284 Tryz.func284 rfl (by kernel_rfl) (zat (by kernel_rfl)) ?_
 simp -implicitDefEqProofs only [go_sem, Tryz.results284]
def Tm.atomOk (a : Tm) : Bool := if (a.name == [61]) = true then decide (a.args.length = 2) && zcj a && a.args.all Tm.names else zch a.name && a.good
theorem zyx {α : Type} {xs : List α} {p : α -> Bool} (h : xs.length = 2) : xs.all p = (p (xs[0]'(by omega)) && p (xs[1]'(by omega))) := by
 match xs, h with
 | [a, b], _ => simp
theorem zkm (a : Tm) (hs : a.wt <= 1099511627776) : FC Tryz.prog 244 [tmD a] [bD a.atomOk] := by
 have hN : a.atomOk = if (a.name == [61]) = true then decide (a.args.length = 2) && zcj a && a.args.all Tm.names else zch a.name && a.good := rfl
 simp only [tmD, zaa]
 refine zah Tryz.call244 Tryz.func244 rfl (by kernel_rfl) (zat (by kernel_rfl)) ?_
 simp -implicitDefEqProofs only [go_sem, Tryz.results244]
 refine callF (zny a) (by simp -implicitDefEqProofs only [go_sem, zaa]) ?_
 simp -implicitDefEqProofs only [go_sem, zaa]
 refine ⟨fun h => ?_, fun h => ?_⟩
 ·rw [if_pos h] at hN
  by_cases h2 : a.args.length = 2
  ·have k0 : 0 < a.args.length := by omega
   have k1 : 1 < a.args.length := by omega
   have e2 : ((a.args.length : Int) == 2) = true := by simp [h2]
   have l0 : (0 : Int) < a.args.length := by omega
   have l1 : (1 : Int) < a.args.length := by omega
   rw [zyx h2, show decide (a.args.length = 2) = true by simp [h2]] at hN
   simp only [Bool.true_and] at hN
   simp only [e2, zzk, zeq, qix, zdx, and_true]
   refine callF (zm2 a hs) (by simp -implicitDefEqProofs only [go_sem, zaa, l0, zag, k0]) ?_
   simp -implicitDefEqProofs only [go_sem, zaa, l0, zag, k0]
   refine ⟨fun h3 => ?_, fun h3 => ?_⟩
   ·refine callF (zgk a.args[0]) (by simp -implicitDefEqProofs only [go_sem, zaa, l1, zag, k1]) ?_
    simp -implicitDefEqProofs only [go_sem, zaa, l1, zag, k1]
    refine ⟨fun h4 => ?_, fun h4 => ?_⟩
    ·refine callF (zgk a.args[1]) (by simp -implicitDefEqProofs only [go_sem, zaa]) ?_
     simp -implicitDefEqProofs only [go_sem, zaa]
     rw [hN, h3, h4]; rfl
    ·rw [hN, h3, h4]; rfl
   ·rw [hN, h3]; rfl
  ·have e2 : ((a.args.length : Int) == 2) = false := by simp; omega
   simp only [e2, zzk, qg6, zeq, zdx, and_true, true_and, qg7]
   rw [hN, show decide (a.args.length = 2) = false by simpa using h2]; rfl
 ·rw [h] at hN
  simp only [Bool.false_eq_true, if_false] at hN
  refine callF (zjf a.name) (by simp -implicitDefEqProofs only [go_sem]) ?_
  simp -implicitDefEqProofs only [go_sem]
  refine ⟨fun h3 => ?_, fun h3 => ?_⟩
  ·refine callF (zf4 a hs) (by simp -implicitDefEqProofs only [go_sem, zaa]) ?_
   simp -implicitDefEqProofs only [go_sem, zaa]
   rw [hN, h3, Bool.true_and]
  ·rw [hN, h3, Bool.false_and]
def Tm.none (a : Tm) : Bool := a.name == [] && decide (a.args.length = 0)
theorem zbo (a : Tm) : FC Tryz.prog 203 [tmD a] [bD a.none] := by
 simp only [tmD, zaa]
 refine zah Tryz.call203 Tryz.func203 rfl (by kernel_rfl) (zat (by kernel_rfl)) ?_
 simp -implicitDefEqProofs only [go_sem, Tryz.results203]
 unfold Tm.none
 refine ⟨fun h => ?_, fun h => ?_⟩
 ·rw [h, Bool.true_and]
  congr 1
  rw [Bool.eq_iff_iff]; simp
 ·rw [h]; rfl
def isQ (n : Int) : Bool := n == 8 || n == 9
def zjc (n : Int) : Bool := n == 5 || n == 6 || n == 7
theorem zaj (n : Int) : FC Tryz.prog 232 [iD n] [bD (isQ n)] := by
 refine zah Tryz.call232 Tryz.func232 rfl (by kernel_rfl) (zat (by kernel_rfl)) ?_
 simp -implicitDefEqProofs only [go_sem, Tryz.results232]
 unfold isQ
 refine ⟨fun h => ?_, fun h => ?_⟩ <;> simp [h]
theorem ze7 (n : Int) : FC Tryz.prog 243 [iD n] [bD (zjc n)] := by
 refine zah Tryz.call243 Tryz.func243 rfl (by kernel_rfl) (zat (by kernel_rfl)) ?_
 simp -implicitDefEqProofs only [go_sem, Tryz.results243]
 unfold zjc
 refine ⟨fun h => ⟨fun h2 => ?_, fun h2 => ?_⟩, fun h => ?_⟩ <;> simp [*]
end Go.Proofs.YtemnhgmgeijkcaaGreat
namespace Go.Proofs.YtemnhgmgeijkcaaGreat
set_option linter.unusedSimpArgs false
set_option linter.unusedVariables false
set_option linter.unusedSectionVars false
set_option maxRecDepth 4000
open Go.RowKit
def voI : Tm -> List Str := Tm.fold fun n xs rs => if (decide (xs.length = 0) && zi3 (n.getD 0 0)) = true then [n] else rs.flatten
theorem zqo (a : Tm) : voI a = if (decide (a.args.length = 0) && zi3 (a.name.getD 0 0)) = true then [a.name] else (a.args.map voI).flatten := Tm.fold_eq _ a
def voS : Tm -> List Str := Tm.fold fun n _ rs => if zav n = true then [n] else rs.flatten
theorem zh9 (a : Tm) : voS a = if zav a.name = true then [a.name] else (a.args.map voS).flatten := Tm.fold_eq _ a
def Tm.ne : Tm -> Bool := Tm.fold fun n xs rs => (!decide (xs.length = 0) || decide (0 < n.length)) && rs.all id
theorem Tm.ne_eq' (a : Tm) : a.ne = ((!decide (a.args.length = 0) || decide (0 < a.name.length)) && a.args.all Tm.ne) := by
 unfold Tm.ne
 rw [Tm.fold_eq]
 simp only [List.all_map]
 rfl
def zj3 (l : List Str) (s : Str) : List Str := if l.contains s = true then l else l ++ [s]
def zbv (l : List Str) (ss : List Str) : List Str := ss.foldl zj3 l
theorem qd3 (l : List Str) (s : Str) : (zj3 l s).length <= l.length + 1 := by unfold zj3; split <;> simp
theorem zdc : ∀ (ss : List Str) (l : List Str), (zbv l ss).length <= l.length + ss.length
 | [], l => by simp [zbv]
 | s :: ss, l => by have := zdc ss (zj3 l s); have := qd3 l s; simp only [zbv, List.foldl_cons, List.length_cons] at *; omega
theorem zfs (l a b : List Str) : zbv l (a ++ b) = zbv (zbv l a) b := List.foldl_append ..
theorem qdr (l : List Str) (s x : Str) : x ∈ zj3 l s ↔ x = s \/ x ∈ l := by
 unfold zj3
 split
 ·rename_i h
  have h : s ∈ l := by simpa using h
  exact ⟨Or.inr, fun k => k.elim (fun e => e ▸ h) id⟩
 ·simp [or_comm]
theorem zl7 : ∀ (ss l : List Str) (x : Str), x ∈ zbv l ss ↔ x ∈ ss \/ x ∈ l
 | [], l, x => by simp [zbv]
 | s :: ss, l, x => by
  show x ∈ zbv (zj3 l s) ss ↔ _
  rw [zl7 ss, qdr]; simp [or_assoc, or_left_comm, or_comm]
theorem qgv {l : List Str} (h : l.Nodup) (s : Str) : (zj3 l s).Nodup := by
 unfold zj3
 split
 ·exact h
 ·rename_i hn
  have hn : s ∉ l := by simpa using hn
  exact List.nodup_append.2 ⟨h, by simp, fun a ha b hb e => hn (by rw [List.mem_singleton.1 hb] at e; exact e ▸ ha)⟩
theorem zq8 : ∀ (ss : List Str) {l : List Str}, l.Nodup -> (zbv l ss).Nodup
 | [], _, h => h
 | s :: ss, _, h => zq8 ss (qgv h s)
def zbd (l : List Str) (ss : List Str) : List Str := ss.foldl zqz l
theorem zq2 (l : List Str) (s : Str) : (zqz l s).length <= l.length + 1 := by
 unfold zqz
 split
 ·omega
 ·have : l.length = ((l.takeWhile fun x => Op.bytesLess x s) ++ l.dropWhile fun x => Op.bytesLess x s).length := by rw [List.takeWhile_append_dropWhile]
  simp only [List.length_append, List.length_cons, List.length_nil] at *; omega
theorem zcy : ∀ (ss : List Str) (l : List Str), (zbd l ss).length <= l.length + ss.length
 | [], l => by simp [zbd]
 | s :: ss, l => by have := zcy ss (zqz l s); have := zq2 l s; simp only [zbd, List.foldl_cons, List.length_cons] at *; omega
theorem zgd (l a b : List Str) : zbd l (a ++ b) = zbd (zbd l a) b := List.foldl_append ..
theorem zmm : ∀ (ss l : List Str) (x : Str), x ∈ zbd l ss ↔ x ∈ ss \/ x ∈ l
 | [], l, x => by simp [zbd]
 | s :: ss, l, x => by
  show x ∈ zbd (zqz l s) ss ↔ _
  rw [zmm ss, qda]; simp [or_assoc, or_left_comm, or_comm]
theorem zob : ∀ (ss : List Str) {l : List Str}, Srt l -> Srt (zbd l ss)
 | [], _, h => h
 | s :: ss, _, h => zob ss (qdd h s)
theorem zlj (ss : List Str) : zdk (zbv [] ss) = zbd [] ss :=
 qil (zxm (zq8 ss List.nodup_nil)) (zob ss List.Pairwise.nil) fun s => by rw [zvf, zl7, zmm]
theorem qgl (a : Tm) (h : 0 < a.name.length) : FC Tryz.prog 190 [tmD a] [bD (zi3 (a.name.getD 0 0))] := by
 simp only [tmD, zaa]
 refine zah Tryz.call190 Tryz.func190 rfl (by kernel_rfl) (zat (by kernel_rfl)) ?_
 simp -implicitDefEqProofs only [go_sem, Tryz.results190]
 have h0 : (0 : Int) < a.name.length := by omega
 simp -implicitDefEqProofs only [go_sem, h0, h]
 refine callF (zmo (a.name.getD 0 0)) (by simp -implicitDefEqProofs only [go_sem]) ?_
 simp -implicitDefEqProofs only [go_sem]
theorem zci {α : Type} (f : α -> List Str) (xs : List α) (k : Nat) (h : k < xs.length) : ((xs.take (k + 1)).map f).flatten = ((xs.take k).map f).flatten ++ f xs[k] := by
 rw [List.take_succ_eq_append_getElem h, List.map_append, List.flatten_append]; simp
theorem zo7 {α : Type} (f : α -> List Str) : ∀ (xs : List α), ∀ x ∈ xs, (f x).length <= ((xs.map f).flatten).length
 | [], x, h => by simp at h
 | a :: xs, x, h => by
  rcases List.mem_cons.1 h with rfl | h
  ·simp
  ·have := zo7 f xs x h; simp at *; omega
theorem zbp {α : Type} (f : α -> List Str) (xs : List α) (k : Nat) (h : k < xs.length) : (((xs.take k).map f).flatten).length + (f xs[k]).length <= ((xs.map f).flatten).length := by
 have e : xs = xs.take k ++ xs[k] :: xs.drop (k + 1) := by rw [<- List.drop_eq_getElem_cons h, List.take_append_drop]
 conv => rhs; rw [e]
 simp only [List.map_append, List.map_cons, List.flatten_append, List.flatten_cons, List.length_append]; omega
set_option maxHeartbeats 1000000 in
theorem zty (a : Tm) (ha : a.ne = true) (H : ∀ x ∈ a.args, ∀ ys : List Str, ys.length + (voI x).length <= 1073741824 -> GC Tryz.prog 124 [(true, .one (zb0 ys)), (false, tmD x)] [.one (zb0 (zbv ys (voI x)))])
  (ys : List Str) (hs : ys.length + (voI a).length <= 1073741824) (hl : a.args.length <= 1099511627776) : GC Tryz.prog 124 [(true, .one (zb0 ys)), (false, tmD a)] [.one (zb0 (zbv ys (voI a)))] := by
 have hv := zqo a
 rw [Tm.ne_eq'] at ha
 simp only [tmD, zaa]
 refine zjq Tryz.call124 Tryz.func124 rfl (by kernel_rfl) (by simp only [List.length_cons, List.length_nil, Tryz.ntmps124]; omega) (by simp [zb6, T.isPin]) ?_
 simp -implicitDefEqProofs only [go_sem, Tryz.results124]
 by_cases h0 : a.args.length = 0
 ·have hn : 0 < a.name.length := by simp [h0] at ha; omega
  have e0 : ((a.args.length : Int) == 0) = true := by simp [h0]
  have hV := qgl a hn
  simp only [tmD, zaa] at hV
  simp -implicitDefEqProofs only [go_sem, e0]
  refine callF (hV) (by simp -implicitDefEqProofs only [go_sem]) ?_
  simp -implicitDefEqProofs only [go_sem]
  refine ⟨fun h1 => ?_, fun h1 => ?_⟩
  ·rw [h1, show decide (a.args.length = 0) = true by simpa using h0, Bool.true_and, if_pos rfl] at hv
   rw [hv] at hs ⊢
   refine callF (zc8 ys a.name) (by simp -implicitDefEqProofs only [go_sem]) ?_
   simp -implicitDefEqProofs only [go_sem]
   have hy : ys.length + 1 <= 4294967296 := by simp at hs; omega
   have hy2 : ys.length <= 4294967295 := by simp at hs; omega
   refine ⟨fun h2 => ?_, fun h2 => ?_⟩
   ·have h2 : ys.contains a.name = false := by simpa using h2
    refine za9 (by simp -implicitDefEqProofs only [go_sem]) ?_
    simp -implicitDefEqProofs only [go_sem]
    refine apD true (by simp -implicitDefEqProofs only [go_sem, hy, hy2, ne_eq, List.length_map]) ?_
    simp -implicitDefEqProofs only [go_sem, hy, hy2, ne_eq, List.length_map]
    have e : zbv ys [a.name] = ys ++ [a.name] := by show zj3 ys a.name = _; unfold zj3; rw [h2]; simp
    exact Or.inl (by rw [e]; simp)
   ·have h2 : ys.contains a.name = true := by simpa using h2
    have e : zbv ys [a.name] = ys := by show zj3 ys a.name = _; unfold zj3; rw [h2]; simp
    exact Or.inl (by rw [e])
  ·rw [h1, Bool.and_false, if_neg (by simp), List.length_eq_zero_iff.1 h0, List.map_nil, List.flatten_nil] at hv
   have hv : voI a = (a.args.map voI).flatten := by rw [hv, List.length_eq_zero_iff.1 h0]; rfl
   rw [hv] at hs ⊢
   refine zae (fun k : Nat => hd [(0, .one (.ow 0 0)), (27, .one (.rn (tmS a.args))), (28, vI a.args.length), (29, vI k)] [] [(0, ⟨true, 1, (zbv ys ((a.args.take k).map voI).flatten).map fun s => [.str s], 0, true⟩)]) (fun k => k <= a.args.length) (fun k => a.args.length - k) 0 (zac ?_) (Nat.zero_le _) ?_
   ·simp -implicitDefEqProofs only [go_sem]
    rfl
   ·intro k hk
    by_cases hlt : k < a.args.length
    ·have hf := zbp voI a.args k hlt
     have hL := zdc ((a.args.take k).map voI).flatten ys
     have hx := zo7 voI a.args _ (List.getElem_mem hlt)
     have HC := H a.args[k] (List.getElem_mem hlt) (zbv ys ((a.args.take k).map voI).flatten) (by omega)
     rw [<- zfs, <- zci voI a.args k hlt] at HC
     simp only [tmD, zaa a.args[k]] at HC
     simp -implicitDefEqProofs only [go_sem, zag, hlt, zaa a.args[k]]
     refine zcb [27, 28, 29] [33, 34] [] (HC) (by simp -implicitDefEqProofs only [go_sem]) (by simp -implicitDefEqProofs only [go_sem]) (by simp -implicitDefEqProofs only [go_sem]) (by simp -implicitDefEqProofs only [go_sem]) ?_
     simp -implicitDefEqProofs only [go_sem]
     refine ⟨k + 1, hlt, by omega, zcw 0 1120 ?_⟩
     simp -implicitDefEqProofs only [go_sem]
     rw [zao (by omega)]
    ·simp -implicitDefEqProofs only [go_sem, hlt]
     exact Or.inl (by rw [List.take_of_length_le (by omega)])
 ·have e0 : ((a.args.length : Int) == 0) = false := by simp [h0]
  rw [show decide (a.args.length = 0) = false by simpa using h0, Bool.false_and, if_neg (by simp)] at hv
  rw [hv] at hs ⊢
  simp -implicitDefEqProofs only [go_sem, e0]
  refine zae (fun k : Nat => hd [(0, .one (.ow 0 0)), (27, .one (.rn (tmS a.args))), (28, vI a.args.length), (29, vI k)] [] [(0, ⟨true, 1, (zbv ys ((a.args.take k).map voI).flatten).map fun s => [.str s], 0, true⟩)]) (fun k => k <= a.args.length) (fun k => a.args.length - k) 0 (zac ?_) (Nat.zero_le _) ?_
  ·simp -implicitDefEqProofs only [go_sem]
   rfl
  ·intro k hk
   by_cases hlt : k < a.args.length
   ·have hf := zbp voI a.args k hlt
    have hL := zdc ((a.args.take k).map voI).flatten ys
    have hx := zo7 voI a.args _ (List.getElem_mem hlt)
    have HC := H a.args[k] (List.getElem_mem hlt) (zbv ys ((a.args.take k).map voI).flatten) (by omega)
    rw [<- zfs, <- zci voI a.args k hlt] at HC
    simp only [tmD, zaa a.args[k]] at HC
    simp -implicitDefEqProofs only [go_sem, zag, hlt, zaa a.args[k]]
    refine zcb [27, 28, 29] [33, 34] [] (HC) (by simp -implicitDefEqProofs only [go_sem]) (by simp -implicitDefEqProofs only [go_sem]) (by simp -implicitDefEqProofs only [go_sem]) (by simp -implicitDefEqProofs only [go_sem]) ?_
    simp -implicitDefEqProofs only [go_sem]
    refine ⟨k + 1, hlt, by omega, zcw 0 1120 ?_⟩
    simp -implicitDefEqProofs only [go_sem]
    rw [zao (by omega)]
   ·simp -implicitDefEqProofs only [go_sem, hlt]
    exact Or.inl (by rw [List.take_of_length_le (by omega)])
theorem zn3 : ∀ a : Tm, a.ne = true -> a.wt <= 1099511627776 -> ∀ ys : List Str, ys.length + (voI a).length <= 1073741824 -> GC Tryz.prog 124 [(true, .one (zb0 ys)), (false, tmD a)] [.one (zb0 (zbv ys (voI a)))] :=
 za7 fun n xs ih ha hw ys hs => zty (.mk n xs) ha (fun x hx ys hs => ih x hx (by rw [Tm.ne_eq', Bool.and_eq_true] at ha; exact List.all_eq_true.1 ha.2 x hx) (by
  have := Tm.wt_eq (.mk n xs)
  have := zbe Tm.wt xs x hx
  simp only [Tm.args] at *; omega) ys hs) ys hs (by have := Tm.wt_eq (.mk n xs); omega)
theorem zp1 (a : Tm) (ha : a.ne = true) (hw : a.wt <= 1099511627776) (hs : (voI a).length <= 1073741824) : FC Tryz.prog 246 [tmD a] [.one (zb0 (zbd [] (voI a)))] := by
 have HC := zn3 a ha hw [] (by simpa using hs)
 have HS := zh0 (zbv [] (voI a)) (by have := zdc (voI a) []; simp at this; omega)
 rw [zlj] at HS
 simp only [tmD, zaa] at HC ⊢
 refine zcp Tryz.call246 Tryz.func246 rfl (by kernel_rfl) (zat (by kernel_rfl)) ?_
 simp -implicitDefEqProofs only [go_sem, Tryz.results246]
 refine za9 (by simp -implicitDefEqProofs only [go_sem]) ?_
 simp -implicitDefEqProofs only [go_sem]
 refine zcb [] [4, 5] [] (HC) (by simp -implicitDefEqProofs only [go_sem]) (by simp -implicitDefEqProofs only [go_sem]) (by simp -implicitDefEqProofs only [go_sem]) (by simp -implicitDefEqProofs only [go_sem]) ?_
 simp -implicitDefEqProofs only [go_sem]
 refine zvh (HS) (by simp -implicitDefEqProofs only [go_sem, zbq]) (by simp -implicitDefEqProofs only [go_sem, zbq]) rfl ?_
 simp -implicitDefEqProofs only [go_sem, zbq]
theorem zx9 (a : Tm) (H : ∀ x ∈ a.args, ∀ ys : List Str, ys.length + (voS x).length <= 1073741824 -> GC Tryz.prog 241 [(true, .one (zb0 ys)), (false, tmD x)] [.one (zb0 (zbd ys (voS x)))])
  (ys : List Str) (hs : ys.length + (voS a).length <= 1073741824) (hl : a.args.length <= 1099511627776) : GC Tryz.prog 241 [(true, .one (zb0 ys)), (false, tmD a)] [.one (zb0 (zbd ys (voS a)))] := by
 have hv := zh9 a
 simp only [tmD, zaa]
 refine zjq Tryz.call241 Tryz.func241 rfl (by kernel_rfl) (by simp only [List.length_cons, List.length_nil, Tryz.ntmps241]; omega) (by simp [zb6, T.isPin]) ?_
 simp -implicitDefEqProofs only [go_sem, Tryz.results241]
 refine callF (zfi a.name) (by simp -implicitDefEqProofs only [go_sem]) ?_
 simp -implicitDefEqProofs only [go_sem]
 refine ⟨fun h => ?_, fun h => ?_⟩
 ·rw [if_pos h] at hv
  rw [hv] at hs ⊢
  refine zcb [] [9, 11] [] (zwg ys a.name (by simp at hs; omega)) (by simp -implicitDefEqProofs only [go_sem]) (by simp -implicitDefEqProofs only [go_sem]) (by simp -implicitDefEqProofs only [go_sem]) (by simp -implicitDefEqProofs only [go_sem]) ?_
  simp -implicitDefEqProofs only [go_sem]
  exact Or.inl rfl
 ·rw [h, if_neg (by simp)] at hv
  rw [hv] at hs ⊢
  refine zae (fun k : Nat => hd [(0, .one (.ow 0 0)), (3, .one (.bx 3 0)), (5, vI k)] [(3, [.t (.str a.name), .rn (tmS a.args)])] [(0, ⟨true, 1, (zbd ys ((a.args.take k).map voS).flatten).map fun s => [.str s], 0, true⟩)]) (fun k => k <= a.args.length) (fun k => a.args.length - k) 0 (zac ?_) (Nat.zero_le _) ?_
  ·simp -implicitDefEqProofs only [go_sem]
   rfl
  ·intro k hk
   by_cases hlt : k < a.args.length
   ·have hf := zbp voS a.args k hlt
    have hL := zcy ((a.args.take k).map voS).flatten ys
    have HC := H a.args[k] (List.getElem_mem hlt) (zbd ys ((a.args.take k).map voS).flatten) (by omega)
    rw [<- zgd, <- zci voS a.args k hlt] at HC
    simp only [tmD, zaa a.args[k]] at HC
    simp -implicitDefEqProofs only [go_sem, zag, hlt, zaa a.args[k]]
    refine zcb [3, 5] [20, 25] [] (HC) (by simp -implicitDefEqProofs only [go_sem]) (by simp -implicitDefEqProofs only [go_sem]) (by simp -implicitDefEqProofs only [go_sem]) (by simp -implicitDefEqProofs only [go_sem]) ?_
    simp -implicitDefEqProofs only [go_sem]
    refine ⟨k + 1, hlt, by omega, zcw 0 832 ?_⟩
    simp -implicitDefEqProofs only [go_sem]
    rw [zao (by omega)]
   ·simp -implicitDefEqProofs only [go_sem, hlt]
    exact Or.inl (by rw [List.take_of_length_le (by omega)])
end Go.Proofs.YtemnhgmgeijkcaaGreat
namespace Go.Proofs.YtemnhgmgeijkcaaGreat
set_option linter.unusedSimpArgs false
set_option linter.unusedVariables false
set_option linter.unusedSectionVars false
set_option maxRecDepth 4000
open Go.RowKit
def Fm.nodes : Fm -> Nat := Fm.fold fun _ _ _ _ rs => 1 + rs.sum
theorem Fm.nodes_eq (a : Fm) : a.nodes = 1 + (a.parts.map Fm.nodes).sum := Fm.fold_eq _ a
theorem zb4 : ∀ a : Fm, a.nodes <= 1 + a.wt := by
 refine za6 fun o a v xs ih => ?_
 rw [Fm.nodes_eq, Fm.wt_eq]
 show 1 + (xs.map Fm.nodes).sum <= 1 + (a.wt + v.length + xs.length + (xs.map Fm.wt).sum)
 have : (xs.map Fm.nodes).sum <= xs.length + (xs.map Fm.wt).sum := by
  induction xs with
  | nil => simp
  | cons x xs ih2 =>
   have h1 := ih x (by simp)
   have h2 := ih2 fun y hy => ih y (by simp [hy])
   simp only [List.map_cons, List.sum_cons, List.length_cons]
   omega
 omega
def ze1 : Fm -> Int := Fm.fold fun _ _ _ _ rs => szL 40 1 rs
theorem zrh (a : Fm) : ze1 a = szL 40 1 (a.parts.map ze1) := Fm.fold_eq _ a
theorem zju : ∀ a : Fm, 1 <= ze1 a /\ ze1 a <= a.nodes /\ (ze1 a <= 40 -> ze1 a = a.nodes) := by
 refine za6 fun o a v xs ih => ?_
 rw [zrh, Fm.nodes_eq]
 show 1 <= szL 40 1 (xs.map ze1) /\ szL 40 1 (xs.map ze1) <= ((1 + (xs.map Fm.nodes).sum : Nat) : Int) /\ _
 obtain ⟨k1, k2, k3⟩ := zkp ze1 Fm.nodes 40 xs 1 (by omega) ih
 refine ⟨k2, by omega, fun h => ?_⟩
 have := k3 h
 show szL 40 1 (xs.map ze1) = _
 rw [this]; show _ = ((1 + (xs.map Fm.nodes).sum : Nat) : Int); omega
theorem qcl (a : Fm) : decide (ze1 a <= 40) = decide (a.nodes <= 40) := by
 obtain ⟨h1, h2, h3⟩ := zju a
 rw [decide_eq_decide]
 exact ⟨fun h => by have := h3 h; omega, fun h => by omega⟩
theorem zbm {a x : Fm} (h : x ∈ a.parts) : x.wt <= a.wt := by
 have := Fm.wt_eq a
 have := zbe Fm.wt a.parts x h
 omega
theorem zow {a x : Tm} (h : x ∈ a.args) : x.wt <= a.wt := by
 have := Tm.wt_eq a
 have := zbe Tm.wt a.args x h
 omega
theorem zko (a : Fm) : a.atom.wt <= a.wt := by have := Fm.wt_eq a; omega
set_option maxHeartbeats 400000 in
theorem zvy (a : Fm) (hs : a.wt <= 1099511627776) (H : ∀ x ∈ a.parts, FC Tryz.prog 181 [fmD x] [iD (ze1 x)]) : FC Tryz.prog 181 [fmD a] [iD (ze1 a)] := by
 have hl : a.parts.length <= 9223372036854775807 := by rw [Fm.wt_eq] at hs; omega
 have hn := zb4 a
 have hN := a.nodes_eq
 simp only [fmD, zab]
 refine zah Tryz.call181 Tryz.func181 rfl (by kernel_rfl) (zat (by kernel_rfl)) ?_
 simp -implicitDefEqProofs only [go_sem, Tryz.results181]
 refine zae (fun p : Nat × Int => hd [(3, vI p.2), (7, vT (fmS a.parts)), (8, vI a.parts.length), (9, vI p.1)] [] []) (fun p => p.1 <= a.parts.length /\ ze1 a = szL 40 p.2 ((a.parts.drop p.1).map ze1) /\ 1 <= p.2 /\ p.2 + qax Fm.nodes a.parts p.1 <= a.nodes) (fun p => a.parts.length - p.1) (0, 1) (zac ?_) ?_ ?_
 ·simp -implicitDefEqProofs only [go_sem]
 ·exact ⟨by simp, by rw [zrh]; rfl, by omega, by rw [zge]; omega⟩
 ·intro ⟨k, n⟩ ⟨hk, hr, h1, h2⟩
  simp only at hk hr h1 h2
  by_cases hlt : k < a.parts.length
  ·have hd := zlb Fm.nodes a.parts k hlt
   obtain ⟨s1, s2, s3⟩ := zju a.parts[k]
   rw [List.drop_eq_getElem_cons hlt, List.map_cons, szL] at hr
   simp -implicitDefEqProofs only [go_sem, zag, hlt, zab]
   refine ⟨fun h => ?_, fun h => ?_⟩
   ·rw [hr, if_pos (by simpa using h)]
   ·refine callF (H a.parts[k] (List.getElem_mem hlt)) (by simp -implicitDefEqProofs only [go_sem, zab]) ?_
    simp -implicitDefEqProofs only [go_sem, zab]
    rw [if_neg (by simpa using h)] at hr
    exact ⟨(k + 1, n + ze1 a.parts[k]), ⟨hlt, hr, by simp only; omega, by simp only; omega⟩, by simp only; omega, zac (by simp -implicitDefEqProofs only [go_sem]; rw [zao (by omega), zbk (by omega) (by omega)]; exact ⟨rfl, rfl⟩)⟩
  ·simp -implicitDefEqProofs only [go_sem, hlt]
   rw [hr, List.drop_of_length_le (by omega)]; rfl
theorem qaz : ∀ a : Fm, a.wt <= 1099511627776 -> FC Tryz.prog 181 [fmD a] [iD (ze1 a)] :=
 za6 fun o a v xs ih hs => zvy (.mk o a v xs) hs fun x hx => ih x hx (Nat.le_trans (zbm (a := .mk o a v xs) hx) hs)
def mnL (most : Int) : Int -> List (Int -> Int) -> Int
 | n, [] => n
 | n, r :: rs => if n <= most then mnL most (n + r (most - n)) rs else n
theorem zl0 {α : Type} (f : α -> Int -> Int) (g : α -> Nat) (most : Int) : ∀ (xs : List α) (n : Int), 0 <= n -> (∀ x ∈ xs, ∀ m, 0 <= m -> 1 <= f x m /\ f x m <= g x /\ (f x m <= m -> f x m = g x)) -> mnL most n (xs.map f) <= n + (xs.map g).sum /\ n <= mnL most n (xs.map f) /\ (mnL most n (xs.map f) <= most -> mnL most n (xs.map f) = n + (xs.map g).sum)
 | [], n, _, _ => by simp [mnL]
 | x :: xs, n, hn, h => by
  simp only [List.map_cons, mnL, List.sum_cons]
  split
  ·obtain ⟨h1, h2, h3⟩ := h x (by simp) (most - n) (by omega)
   obtain ⟨k1, k2, k3⟩ := zl0 f g most xs (n + f x (most - n)) (by omega) fun y hy => h y (by simp [hy])
   refine ⟨by omega, by omega, fun hh => ?_⟩
   have := k3 hh
   have : f x (most - n) = g x := h3 (by omega)
   omega
  ·refine ⟨by omega, by omega, fun hh => by omega⟩
def zeg : Tm -> Int -> Int := Tm.fold fun _ _ rs m => mnL m 1 rs
theorem zqw (a : Tm) (m : Int) : zeg a m = mnL m 1 (a.args.map zeg) := congrFun (Tm.fold_eq _ a) m
theorem zj9 : ∀ (a : Tm) (m : Int), 0 <= m -> 1 <= zeg a m /\ zeg a m <= a.nodes /\ (zeg a m <= m -> zeg a m = a.nodes) := by
 refine za7 fun b0 xs ih m hm => ?_
 rw [zqw, Tm.nodes_eq]
 show 1 <= mnL m 1 (xs.map zeg) /\ mnL m 1 (xs.map zeg) <= ((1 + (xs.map Tm.nodes).sum : Nat) : Int) /\ (mnL m 1 (xs.map zeg) <= m -> mnL m 1 (xs.map zeg) = ((1 + (xs.map Tm.nodes).sum : Nat) : Int))
 obtain ⟨k1, k2, k3⟩ := zl0 zeg Tm.nodes m xs 1 (by omega) ih
 refine ⟨k2, by omega, fun h => ?_⟩
 have := k3 h
 omega
theorem qde (a : Tm) (m : Nat) : decide (zeg a m <= m) = decide (a.nodes <= m) := by
 obtain ⟨h1, h2, h3⟩ := zj9 a m (by omega)
 rw [decide_eq_decide]
 exact ⟨fun h => by have := h3 h; omega, fun h => by omega⟩
set_option maxHeartbeats 400000 in
theorem zvc (a : Tm) (hs : a.wt <= 1099511627776) (H : ∀ x ∈ a.args, ∀ m : Int, 0 <= m -> m <= 1099511627776 -> FC Tryz.prog 281 [tmD x, iD m] [iD (zeg x m)]) (m : Int) (h0 : 0 <= m) (h1 : m <= 1099511627776) : FC Tryz.prog 281 [tmD a, iD m] [iD (zeg a m)] := by
 have hl : a.args.length <= 9223372036854775807 := by rw [Tm.wt_eq] at hs; omega
 have hn := zfa a
 have hN := a.nodes_eq
 simp only [tmD, zaa]
 refine zah Tryz.call281 Tryz.func281 rfl (by kernel_rfl) (zat (by kernel_rfl)) ?_
 simp -implicitDefEqProofs only [go_sem, Tryz.results281]
 refine zae (fun p : Nat × Int => hd [(1, vI m), (2, .one (.bx 2 0)), (5, vI p.2), (6, vI p.1)] [(2, [.t (.str a.name), .t (tmS a.args)])] []) (fun p => p.1 <= a.args.length /\ zeg a m = mnL m p.2 ((a.args.drop p.1).map zeg) /\ 1 <= p.2 /\ p.2 + qax Tm.nodes a.args p.1 <= a.nodes) (fun p => a.args.length - p.1) (0, 1) (zac ?_) ?_ ?_
 ·simp -implicitDefEqProofs only [go_sem]
 ·exact ⟨by simp, by rw [zqw]; rfl, by omega, by rw [zge]; omega⟩
 ·intro ⟨k, n⟩ ⟨hk, hr, h2, h3⟩
  simp only at hk hr h2 h3
  by_cases hlt : k < a.args.length
  ·have hd := zlb Tm.nodes a.args k hlt
   rw [List.drop_eq_getElem_cons hlt, List.map_cons, mnL] at hr
   simp -implicitDefEqProofs only [go_sem, zag, hlt, zaa]
   refine ⟨fun h => ?_, fun h => ?_⟩
   ·have hle : n <= m := by simpa using h
    obtain ⟨s1, s2, s3⟩ := zj9 a.args[k] (m - n) (by omega)
    rw [zbk (n := m - n) (by omega) (by omega)]
    refine callF (H a.args[k] (List.getElem_mem hlt) (m - n) (by omega) (by omega)) (by simp -implicitDefEqProofs only [go_sem, zaa]) ?_
    simp -implicitDefEqProofs only [go_sem, zaa]
    rw [if_pos hle] at hr
    exact ⟨(k + 1, n + zeg a.args[k] (m - n)), ⟨hlt, hr, by simp only; omega, by simp only; omega⟩, by simp only; omega, zac (by simp -implicitDefEqProofs only [go_sem]; rw [zao (by omega), zbk (by omega) (by omega)]; exact ⟨rfl, rfl⟩)⟩
   ·rw [hr, if_neg (by simpa using h)]
  ·simp -implicitDefEqProofs only [go_sem, hlt]
   rw [hr, List.drop_of_length_le (by omega)]; rfl
theorem qbj : ∀ a : Tm, a.wt <= 1099511627776 -> ∀ m : Int, 0 <= m -> m <= 1099511627776 -> FC Tryz.prog 281 [tmD a, iD m] [iD (zeg a m)] :=
 za7 fun b0 xs ih hs => zvc (.mk b0 xs) hs fun x hx => ih x hx (Nat.le_trans (zow (a := .mk b0 xs) hx) hs)
def zee : Fm -> Int -> Int := Fm.fold fun _ _ _ _ rs m => mnL m 1 rs
theorem zsr (a : Fm) (m : Int) : zee a m = mnL m 1 (a.parts.map zee) := congrFun (Fm.fold_eq _ a) m
theorem zji : ∀ (a : Fm) (m : Int), 0 <= m -> 1 <= zee a m /\ zee a m <= a.nodes /\ (zee a m <= m -> zee a m = a.nodes) := by
 refine za6 fun b0 b1 b2 xs ih m hm => ?_
 rw [zsr, Fm.nodes_eq]
 show 1 <= mnL m 1 (xs.map zee) /\ mnL m 1 (xs.map zee) <= ((1 + (xs.map Fm.nodes).sum : Nat) : Int) /\ (mnL m 1 (xs.map zee) <= m -> mnL m 1 (xs.map zee) = ((1 + (xs.map Fm.nodes).sum : Nat) : Int))
 obtain ⟨k1, k2, k3⟩ := zl0 zee Fm.nodes m xs 1 (by omega) ih
 refine ⟨k2, by omega, fun h => ?_⟩
 have := k3 h
 omega
theorem qd6 (a : Fm) (m : Nat) : decide (zee a m <= m) = decide (a.nodes <= m) := by
 obtain ⟨h1, h2, h3⟩ := zji a m (by omega)
 rw [decide_eq_decide]
 exact ⟨fun h => by have := h3 h; omega, fun h => by omega⟩
set_option maxHeartbeats 400000 in
theorem zz8 (a : Fm) (hs : a.wt <= 1099511627776) (H : ∀ x ∈ a.parts, ∀ m : Int, 0 <= m -> m <= 1099511627776 -> FC Tryz.prog 179 [fmD x, iD m] [iD (zee x m)]) (m : Int) (h0 : 0 <= m) (h1 : m <= 1099511627776) : FC Tryz.prog 179 [fmD a, iD m] [iD (zee a m)] := by
 have hl : a.parts.length <= 9223372036854775807 := by rw [Fm.wt_eq] at hs; omega
 have hn := zb4 a
 have hN := a.nodes_eq
 simp only [fmD, zab]
 refine zah Tryz.call179 Tryz.func179 rfl (by kernel_rfl) (zat (by kernel_rfl)) ?_
 simp -implicitDefEqProofs only [go_sem, Tryz.results179]
 refine zae (fun p : Nat × Int => hd [(1, vI m), (2, .one (.bx 2 0)), (5, vI p.2), (6, vI p.1)] [(2, [.t (.int .i64 a.op), .t (.str a.atom.name), .t (tmS a.atom.args), .t (.str a.var), .t (fmS a.parts)])] []) (fun p => p.1 <= a.parts.length /\ zee a m = mnL m p.2 ((a.parts.drop p.1).map zee) /\ 1 <= p.2 /\ p.2 + qax Fm.nodes a.parts p.1 <= a.nodes) (fun p => a.parts.length - p.1) (0, 1) (zac ?_) ?_ ?_
 ·simp -implicitDefEqProofs only [go_sem]
 ·exact ⟨by simp, by rw [zsr]; rfl, by omega, by rw [zge]; omega⟩
 ·intro ⟨k, n⟩ ⟨hk, hr, h2, h3⟩
  simp only at hk hr h2 h3
  by_cases hlt : k < a.parts.length
  ·have hd := zlb Fm.nodes a.parts k hlt
   rw [List.drop_eq_getElem_cons hlt, List.map_cons, mnL] at hr
   simp -implicitDefEqProofs only [go_sem, zag, hlt, zab]
   refine ⟨fun h => ?_, fun h => ?_⟩
   ·have hle : n <= m := by simpa using h
    obtain ⟨s1, s2, s3⟩ := zji a.parts[k] (m - n) (by omega)
    rw [zbk (n := m - n) (by omega) (by omega)]
    refine callF (H a.parts[k] (List.getElem_mem hlt) (m - n) (by omega) (by omega)) (by simp -implicitDefEqProofs only [go_sem, zab]) ?_
    simp -implicitDefEqProofs only [go_sem, zab]
    rw [if_pos hle] at hr
    exact ⟨(k + 1, n + zee a.parts[k] (m - n)), ⟨hlt, hr, by simp only; omega, by simp only; omega⟩, by simp only; omega, zac (by simp -implicitDefEqProofs only [go_sem]; rw [zao (by omega), zbk (by omega) (by omega)]; exact ⟨rfl, rfl⟩)⟩
   ·rw [hr, if_neg (by simpa using h)]
  ·simp -implicitDefEqProofs only [go_sem, hlt]
   rw [hr, List.drop_of_length_le (by omega)]; rfl
theorem qdt : ∀ a : Fm, a.wt <= 1099511627776 -> ∀ m : Int, 0 <= m -> m <= 1099511627776 -> FC Tryz.prog 179 [fmD a, iD m] [iD (zee a m)] :=
 za6 fun b0 b1 b2 xs ih hs => zz8 (.mk b0 b1 b2 xs) hs fun x hx => ih x hx (Nat.le_trans (zbm (a := .mk b0 b1 b2 xs) hx) hs)
end Go.Proofs.YtemnhgmgeijkcaaGreat
namespace Go.Proofs.YtemnhgmgeijkcaaGreat
set_option linter.unusedSimpArgs false
set_option linter.unusedVariables false
set_option linter.unusedSectionVars false
set_option maxRecDepth 4000
open Go.RowKit
set_option maxHeartbeats 400000 in
theorem ztd (a : Tm) (hs : a.wt <= 1099511627776) (H : ∀ x ∈ a.args, FC Tryz.prog 282 [tmD x] [iD x.depth]) : FC Tryz.prog 282 [tmD a] [iD a.depth] := by
 have hl : a.args.length <= 9223372036854775807 := by rw [Tm.wt_eq] at hs; omega
 have hn := zfa a
 have hdn := zhs a
 have hD := a.depth_eq
 simp only [tmD, zaa]
 refine zah Tryz.call282 Tryz.func282 rfl (by kernel_rfl) (zat (by kernel_rfl)) ?_
 simp -implicitDefEqProofs only [go_sem, Tryz.results282]
 refine zae (fun p : Nat × Nat => hd [(1, .one (.bx 1 0)), (3, vI p.2), (4, vI p.1)] [(1, [.t (.str a.name), .t (tmS a.args)])] []) (fun p => p.1 <= a.args.length /\ a.depth = ((a.args.drop p.1).map Tm.depth).foldl max p.2 + 1) (fun p => a.args.length - p.1) (0, 0) (zac ?_) ?_ ?_
 ·simp -implicitDefEqProofs only [go_sem]
 ·exact ⟨by simp, hD⟩
 ·intro ⟨k, n⟩ ⟨hk, hr⟩
  simp only at hk hr
  by_cases hlt : k < a.args.length
  ·rw [List.drop_eq_getElem_cons hlt, List.map_cons, List.foldl_cons] at hr
   simp -implicitDefEqProofs only [go_sem, zag, hlt, zaa]
   refine callF (H a.args[k] (List.getElem_mem hlt)) (by simp -implicitDefEqProofs only [go_sem, zaa]) ?_
   simp -implicitDefEqProofs only [go_sem, zaa]
   refine callF (qb7 n a.args[k].depth) (by simp -implicitDefEqProofs only [go_sem, zaa]) ?_
   simp -implicitDefEqProofs only [go_sem, zaa]
   exact ⟨(k + 1, max n a.args[k].depth), ⟨hlt, hr⟩, by simp only; omega, zac (by simp -implicitDefEqProofs only [go_sem]; rw [zao (by omega)]; exact ⟨by congr 1; omega, rfl⟩)⟩
  ·simp -implicitDefEqProofs only [go_sem, hlt]
   rw [List.drop_of_length_le (by omega)] at hr
   simp only [List.map_nil, List.foldl_nil] at hr
   rw [hr, zao (by omega)]
theorem zya : ∀ a : Tm, a.wt <= 1099511627776 -> FC Tryz.prog 282 [tmD a] [iD a.depth] :=
 za7 fun n xs ih hs => ztd (.mk n xs) hs fun x hx => ih x hx (Nat.le_trans (zow (a := .mk n xs) hx) hs)
theorem zr9 (a : Tm) (hs : a.wt <= 1099511627776) : FC Tryz.prog 237 [tmD a] [bD (zcj a)] := by
 simp only [tmD, zaa]
 refine zah Tryz.call237 Tryz.func237 rfl (by kernel_rfl) (zat (by kernel_rfl)) ?_
 simp -implicitDefEqProofs only [go_sem, Tryz.results237]
 refine callF (qbj a hs 30 (by omega) (by omega)) (by simp -implicitDefEqProofs only [go_sem, zaa]) ?_
 simp -implicitDefEqProofs only [go_sem, zaa]
 rw [show decide (zeg a 30 <= 30) = decide (a.nodes <= 30) from qde a 30]
 refine ⟨fun h => ?_, fun h => ?_⟩
 ·refine callF (zya a hs) (by simp -implicitDefEqProofs only [go_sem, zaa]) ?_
  simp -implicitDefEqProofs only [go_sem, zaa]
  rw [zcj, h, Bool.true_and]
  congr 1
  rw [decide_eq_decide]; omega
 ·rw [zcj, h]; rfl
theorem ztu (a : Tm) (H : ∀ x ∈ a.args, FC Tryz.prog 238 [tmD x] [bD x.names]) : FC Tryz.prog 238 [tmD a] [bD a.names] := by
 refine zc0 (fun hw => ?_) Tryz.call238
 have hl : a.args.length <= 9223372036854775807 := by simp only [tmD, zaa] at hw; simp [zfj, wfT, zol] at hw; exact hw.2.1
 have hN := a.names_eq
 simp only [tmD, zaa]
 refine zah Tryz.call238 Tryz.func238 rfl (by kernel_rfl) (zat (by kernel_rfl)) ?_
 simp -implicitDefEqProofs only [go_sem, Tryz.results238]
 refine callF (zfi a.name) (by simp -implicitDefEqProofs only [go_sem]) ?_
 simp -implicitDefEqProofs only [go_sem]
 refine ⟨fun h => ?_, fun h => ?_⟩
 ·rw [hN, if_pos h]
  congr 1
  rw [Bool.eq_iff_iff]; simp
 ·rw [h] at hN
  simp only [Bool.false_eq_true, if_false] at hN
  refine callF (zjb a.name) (by simp -implicitDefEqProofs only [go_sem]) ?_
  simp -implicitDefEqProofs only [go_sem]
  by_cases hy : zch a.name = true
  ·by_cases h4 : a.args.length <= 4
   ·rw [hy, show decide (a.args.length <= 4) = true by simpa using h4, Bool.true_and, Bool.true_and] at hN
    refine ⟨fun _ => ⟨fun h => by simp at h; omega, fun _ => ?_⟩, fun h => by simp [hy] at h⟩
    refine zae (fun k : Nat => hd [(1, .one (.bx 1 0)), (3, vI k)] [(1, [.t (.str a.name), .t (tmS a.args)])] []) (fun k => k <= a.args.length /\ a.names = (a.args.drop k).all Tm.names) (fun k => a.args.length - k) 0 (zac ?_) ?_ ?_
    ·simp -implicitDefEqProofs only [go_sem]
    ·exact ⟨by simp, hN⟩
    ·intro k ⟨hk, hr⟩
     by_cases hlt : k < a.args.length
     ·rw [List.drop_eq_getElem_cons hlt, List.all_cons] at hr
      simp -implicitDefEqProofs only [go_sem, zag, hlt, zaa]
      refine callF (H a.args[k] (List.getElem_mem hlt)) (by simp -implicitDefEqProofs only [go_sem, zaa]) ?_
      simp -implicitDefEqProofs only [go_sem, zaa]
      refine ⟨fun h => ?_, fun h => ⟨k + 1, ⟨hlt, ?_⟩, by omega, zac (by simp -implicitDefEqProofs only [go_sem]; rw [zao (by omega)])⟩⟩
      ·rw [hr, show a.args[k].names = false by simpa using h]; rfl
      ·rw [hr, show a.args[k].names = true by simpa using h]; rfl
     ·simp -implicitDefEqProofs only [go_sem, hlt]
      rw [hr, List.drop_of_length_le (by omega)]; rfl
   ·refine ⟨fun _ => ⟨fun _ => ?_, fun h => by simp at h; omega⟩, fun h => by simp [hy] at h⟩
    rw [hN, show decide (a.args.length <= 4) = false by simpa using h4, Bool.and_false]; rfl
  ·have hy' : zch a.name = false := by simpa using hy
   refine ⟨fun h => by simp [hy'] at h, fun _ => ?_⟩
   rw [hN, hy']; rfl
theorem ziu : ∀ a : Tm, FC Tryz.prog 238 [tmD a] [bD a.names] := za7 fun n xs ih => ztu (.mk n xs) ih
theorem zrl (a : Tm) (hs : a.wt <= 1099511627776) : FC Tryz.prog 173 [tmD a] [bD a.good] := by
 simp only [tmD, zaa]
 refine zah Tryz.call173 Tryz.func173 rfl (by kernel_rfl) (zat (by kernel_rfl)) ?_
 simp -implicitDefEqProofs only [go_sem, Tryz.results173]
 refine callF (zr9 a hs) (by simp -implicitDefEqProofs only [go_sem, zaa]) ?_
 simp -implicitDefEqProofs only [go_sem, zaa]
 refine ⟨fun h => ?_, fun h => ?_⟩
 ·refine callF (ziu a) (by simp -implicitDefEqProofs only [go_sem, zaa]) ?_
  simp -implicitDefEqProofs only [go_sem, zaa]
  rw [Tm.good, h, Bool.true_and]
 ·rw [Tm.good, h, Bool.false_and]
theorem zsx (a : Tm) (hs : a.wt <= 1099511627776) : FC Tryz.prog 177 [tmD a] [bD a.atomOk] := by
 have hN : a.atomOk = if (a.name == [61]) = true then decide (a.args.length = 2) && zcj a && a.args.all Tm.names else zch a.name && a.good := rfl
 simp only [tmD, zaa]
 refine zah Tryz.call177 Tryz.func177 rfl (by kernel_rfl) (zat (by kernel_rfl)) ?_
 simp -implicitDefEqProofs only [go_sem, Tryz.results177]
 refine ⟨fun h => ?_, fun h => ?_⟩
 ·rw [if_pos h] at hN
  by_cases h2 : a.args.length = 2
  ·have k0 : 0 < a.args.length := by omega
   have k1 : 1 < a.args.length := by omega
   have e2 : ((a.args.length : Int) == 2) = true := by simp [h2]
   have l0 : (0 : Int) < a.args.length := by omega
   have l1 : (1 : Int) < a.args.length := by omega
   rw [zyx h2, show decide (a.args.length = 2) = true by simp [h2]] at hN
   simp only [Bool.true_and] at hN
   simp only [e2, zzk, zeq, qix, zdx, and_true]
   refine callF (zr9 a hs) (by simp -implicitDefEqProofs only [go_sem, zaa, l0, zag, k0]) ?_
   simp -implicitDefEqProofs only [go_sem, zaa, l0, zag, k0]
   refine ⟨fun h3 => ?_, fun h3 => ?_⟩
   ·refine callF (ziu a.args[0]) (by simp -implicitDefEqProofs only [go_sem, zaa, l1, zag, k1]) ?_
    simp -implicitDefEqProofs only [go_sem, zaa, l1, zag, k1]
    refine ⟨fun h4 => ?_, fun h4 => ?_⟩
    ·refine callF (ziu a.args[1]) (by simp -implicitDefEqProofs only [go_sem, zaa]) ?_
     simp -implicitDefEqProofs only [go_sem, zaa]
     rw [hN, h3, h4]; rfl
    ·rw [hN, h3, h4]; rfl
   ·rw [hN, h3]; rfl
  ·have e2 : ((a.args.length : Int) == 2) = false := by simp; omega
   simp only [e2, zzk, qg6, zeq, zdx, and_true, true_and, qg7]
   rw [hN, show decide (a.args.length = 2) = false by simpa using h2]; rfl
 ·rw [h] at hN
  simp only [Bool.false_eq_true, if_false] at hN
  refine callF (zjb a.name) (by simp -implicitDefEqProofs only [go_sem]) ?_
  simp -implicitDefEqProofs only [go_sem]
  refine ⟨fun h3 => ?_, fun h3 => ?_⟩
  ·refine callF (zrl a hs) (by simp -implicitDefEqProofs only [go_sem, zaa]) ?_
   simp -implicitDefEqProofs only [go_sem, zaa]
   rw [hN, h3, Bool.true_and]
  ·rw [hN, h3, Bool.false_and]
theorem zdn (a : Tm) : FC Tryz.prog 283 [tmD a] [bD a.none] := by
 simp only [tmD, zaa]
 refine zah Tryz.call283 Tryz.func283 rfl (by kernel_rfl) (zat (by kernel_rfl)) ?_
 simp -implicitDefEqProofs only [go_sem, Tryz.results283]
 unfold Tm.none
 refine ⟨fun h => ?_, fun h => ?_⟩
 ·rw [h, Bool.true_and]
  congr 1
  rw [Bool.eq_iff_iff]; simp
 ·rw [h]; rfl
def Fm.here (f : Fm) : Bool :=
 if (f.op == 1 || f.op == 2) = true then decide (f.parts.length = 0) && f.atom.none && (f.var == [])
 else if (f.op == 3) = true then decide (f.parts.length = 0) && f.atom.atomOk && (f.var == [])
 else if (f.op == 4) = true then decide (f.parts.length = 1) && f.atom.none && (f.var == [])
 else if zjc f.op = true then decide (f.parts.length = 2) && f.atom.none && (f.var == [])
 else if isQ f.op = true then decide (f.parts.length = 1) && f.atom.none && zav f.var
 else false
theorem zlf (n m : Nat) : ((n : Int) == (m : Int)) = decide (n = m) := by
 rw [Bool.eq_iff_iff]; simp only [beq_iff_eq, decide_eq_true_eq]; omega
theorem zo0 (n m : Nat) : ((n : Int) != (m : Int)) = !decide (n = m) := by
 rw [bne, zlf]
theorem zrp (o : Int) : o = 1 \/ o = 2 \/ o = 3 \/ o = 4 \/ o = 5 \/ o = 6 \/ o = 7 \/ o = 8 \/ o = 9 \/ (o ≠ 1 /\ o ≠ 2 /\ o ≠ 3 /\ o ≠ 4 /\ o ≠ 5 /\ o ≠ 6 /\ o ≠ 7 /\ o ≠ 8 /\ o ≠ 9) := by omega
set_option maxHeartbeats 4000000 in
theorem qbu (f : Fm) (hs : f.wt <= 1099511627776) : FC Tryz.prog 242 [fmD f] [bD f.here] := by
 obtain ⟨o, a, v, ps⟩ := f
 have ha : a.wt <= 1099511627776 := Nat.le_trans (zko (.mk o a v ps)) hs
 have e0 : ((ps.length : Int) == 0) = decide (ps.length = 0) := zlf _ 0
 have e1 : ((ps.length : Int) == 1) = decide (ps.length = 1) := zlf _ 1
 have e2 : ((ps.length : Int) == 2) = decide (ps.length = 2) := zlf _ 2
 rcases zrp o with rfl | rfl | rfl | rfl | rfl | rfl | rfl | rfl | rfl | ⟨n1, n2, n3, n4, n5, n6, n7, n8, n9⟩
 ·have hN : Fm.here (.mk 1 a v ps) = (decide (ps.length = 0) && a.none && (v == [])) := rfl
  simp only [fmD, zab, Fm.op, Fm.atom, Fm.var, Fm.parts]
  refine zah Tryz.call242 Tryz.func242 rfl (by kernel_rfl) (zat (by kernel_rfl)) ?_
  simp -implicitDefEqProofs only [go_sem, Tryz.results242]
  simp only [e0]
  refine ⟨fun h => ?_, fun h => ?_⟩
  ·refine callF (zdn a) (by simp -implicitDefEqProofs only [go_sem, zaa]) ?_
   simp -implicitDefEqProofs only [go_sem, zaa]
   refine ⟨fun h1 => ?_, fun h1 => ?_⟩
   ·rw [hN, h, h1]; rfl
   ·rw [hN, h, h1]; rfl
  ·rw [hN, h]; rfl
 ·have hN : Fm.here (.mk 2 a v ps) = (decide (ps.length = 0) && a.none && (v == [])) := rfl
  simp only [fmD, zab, Fm.op, Fm.atom, Fm.var, Fm.parts]
  refine zah Tryz.call242 Tryz.func242 rfl (by kernel_rfl) (zat (by kernel_rfl)) ?_
  simp -implicitDefEqProofs only [go_sem, Tryz.results242]
  simp only [e0]
  refine ⟨fun h => ?_, fun h => ?_⟩
  ·refine callF (zdn a) (by simp -implicitDefEqProofs only [go_sem, zaa]) ?_
   simp -implicitDefEqProofs only [go_sem, zaa]
   refine ⟨fun h1 => ?_, fun h1 => ?_⟩
   ·rw [hN, h, h1]; rfl
   ·rw [hN, h, h1]; rfl
  ·rw [hN, h]; rfl
 ·have hN : Fm.here (.mk 3 a v ps) = (decide (ps.length = 0) && a.atomOk && (v == [])) := rfl
  simp only [fmD, zab, Fm.op, Fm.atom, Fm.var, Fm.parts]
  refine zah Tryz.call242 Tryz.func242 rfl (by kernel_rfl) (zat (by kernel_rfl)) ?_
  simp -implicitDefEqProofs only [go_sem, Tryz.results242]
  simp only [e0]
  refine ⟨fun h => ?_, fun h => ?_⟩
  ·refine callF (zsx a ha) (by simp -implicitDefEqProofs only [go_sem, zaa]) ?_
   simp -implicitDefEqProofs only [go_sem, zaa]
   refine ⟨fun h1 => ?_, fun h1 => ?_⟩
   ·rw [hN, h, h1]; rfl
   ·rw [hN, h, h1]; rfl
  ·rw [hN, h]; rfl
 ·have hN : Fm.here (.mk 4 a v ps) = (decide (ps.length = 1) && a.none && (v == [])) := rfl
  simp only [fmD, zab, Fm.op, Fm.atom, Fm.var, Fm.parts]
  refine zah Tryz.call242 Tryz.func242 rfl (by kernel_rfl) (zat (by kernel_rfl)) ?_
  simp -implicitDefEqProofs only [go_sem, Tryz.results242]
  simp only [e1]
  refine ⟨fun h => ?_, fun h => ?_⟩
  ·refine callF (zdn a) (by simp -implicitDefEqProofs only [go_sem, zaa]) ?_
   simp -implicitDefEqProofs only [go_sem, zaa]
   refine ⟨fun h1 => ?_, fun h1 => ?_⟩
   ·rw [hN, h, h1]; rfl
   ·rw [hN, h, h1]; rfl
  ·rw [hN, h]; rfl
 ·have hN : Fm.here (.mk 5 a v ps) = (decide (ps.length = 2) && a.none && (v == [])) := rfl
  simp only [fmD, zab, Fm.op, Fm.atom, Fm.var, Fm.parts]
  refine zah Tryz.call242 Tryz.func242 rfl (by kernel_rfl) (zat (by kernel_rfl)) ?_
  simp -implicitDefEqProofs only [go_sem, Tryz.results242]
  simp only [e2]
  refine ⟨fun h => ?_, fun h => ?_⟩
  ·refine callF (zdn a) (by simp -implicitDefEqProofs only [go_sem, zaa]) ?_
   simp -implicitDefEqProofs only [go_sem, zaa]
   refine ⟨fun h1 => ?_, fun h1 => ?_⟩
   ·rw [hN, h, h1]; rfl
   ·rw [hN, h, h1]; rfl
  ·rw [hN, h]; rfl
 ·have hN : Fm.here (.mk 6 a v ps) = (decide (ps.length = 2) && a.none && (v == [])) := rfl
  simp only [fmD, zab, Fm.op, Fm.atom, Fm.var, Fm.parts]
  refine zah Tryz.call242 Tryz.func242 rfl (by kernel_rfl) (zat (by kernel_rfl)) ?_
  simp -implicitDefEqProofs only [go_sem, Tryz.results242]
  simp only [e2]
  refine ⟨fun h => ?_, fun h => ?_⟩
  ·refine callF (zdn a) (by simp -implicitDefEqProofs only [go_sem, zaa]) ?_
   simp -implicitDefEqProofs only [go_sem, zaa]
   refine ⟨fun h1 => ?_, fun h1 => ?_⟩
   ·rw [hN, h, h1]; rfl
   ·rw [hN, h, h1]; rfl
  ·rw [hN, h]; rfl
 ·have hN : Fm.here (.mk 7 a v ps) = (decide (ps.length = 2) && a.none && (v == [])) := rfl
  simp only [fmD, zab, Fm.op, Fm.atom, Fm.var, Fm.parts]
  refine zah Tryz.call242 Tryz.func242 rfl (by kernel_rfl) (zat (by kernel_rfl)) ?_
  simp -implicitDefEqProofs only [go_sem, Tryz.results242]
  simp only [e2]
  refine ⟨fun h => ?_, fun h => ?_⟩
  ·refine callF (zdn a) (by simp -implicitDefEqProofs only [go_sem, zaa]) ?_
   simp -implicitDefEqProofs only [go_sem, zaa]
   refine ⟨fun h1 => ?_, fun h1 => ?_⟩
   ·rw [hN, h, h1]; rfl
   ·rw [hN, h, h1]; rfl
  ·rw [hN, h]; rfl
 ·have hN : Fm.here (.mk 8 a v ps) = (decide (ps.length = 1) && a.none && zav v) := rfl
  simp only [fmD, zab, Fm.op, Fm.atom, Fm.var, Fm.parts]
  refine zah Tryz.call242 Tryz.func242 rfl (by kernel_rfl) (zat (by kernel_rfl)) ?_
  simp -implicitDefEqProofs only [go_sem, Tryz.results242]
  simp only [e1]
  refine ⟨fun h => ?_, fun h => ?_⟩
  ·refine callF (zdn a) (by simp -implicitDefEqProofs only [go_sem, zaa]) ?_
   simp -implicitDefEqProofs only [go_sem, zaa]
   refine ⟨fun h1 => ?_, fun h1 => ?_⟩
   ·refine callF (zfi v) (by simp -implicitDefEqProofs only [go_sem]) ?_
    simp -implicitDefEqProofs only [go_sem]
    rw [hN, h, h1]; rfl
   ·rw [hN, h, h1]; rfl
  ·rw [hN, h]; rfl
 ·have hN : Fm.here (.mk 9 a v ps) = (decide (ps.length = 1) && a.none && zav v) := rfl
  simp only [fmD, zab, Fm.op, Fm.atom, Fm.var, Fm.parts]
  refine zah Tryz.call242 Tryz.func242 rfl (by kernel_rfl) (zat (by kernel_rfl)) ?_
  simp -implicitDefEqProofs only [go_sem, Tryz.results242]
  simp only [e1]
  refine ⟨fun h => ?_, fun h => ?_⟩
  ·refine callF (zdn a) (by simp -implicitDefEqProofs only [go_sem, zaa]) ?_
   simp -implicitDefEqProofs only [go_sem, zaa]
   refine ⟨fun h1 => ?_, fun h1 => ?_⟩
   ·refine callF (zfi v) (by simp -implicitDefEqProofs only [go_sem]) ?_
    simp -implicitDefEqProofs only [go_sem]
    rw [hN, h, h1]; rfl
   ·rw [hN, h, h1]; rfl
  ·rw [hN, h]; rfl
 ·have hN : Fm.here (.mk o a v ps) = false := by simp [Fm.here, zjc, isQ, Fm.op, *]
  have f1 : (o == 1) = false := by simpa using n1
  have f2 : (o == 2) = false := by simpa using n2
  have f3 : (o == 3) = false := by simpa using n3
  have f4 : (o == 4) = false := by simpa using n4
  have f5 : (o == 5) = false := by simpa using n5
  have f6 : (o == 6) = false := by simpa using n6
  have f7 : (o == 7) = false := by simpa using n7
  have f8 : (o == 8) = false := by simpa using n8
  have f9 : (o == 9) = false := by simpa using n9
  simp only [fmD, zab, Fm.op, Fm.atom, Fm.var, Fm.parts]
  refine zah Tryz.call242 Tryz.func242 rfl (by kernel_rfl) (zat (by kernel_rfl)) ?_
  simp -implicitDefEqProofs only [go_sem, Tryz.results242, f1, f2, f3, f4, f5, f6, f7, f8, f9]
  rw [hN]
def Fm.forms : Fm -> Bool := Fm.fold fun o a v ps rs => (Fm.mk o a v ps).here && rs.all id
theorem Fm.forms_eq (f : Fm) : f.forms = (f.here && f.parts.all Fm.forms) := by
 unfold Fm.forms
 rw [Fm.fold_eq]
 simp only [List.all_map, Fm.eta]
 rfl
theorem ztw (a : Fm) (hs : a.wt <= 1099511627776) (H : ∀ x ∈ a.parts, FC Tryz.prog 180 [fmD x] [bD x.forms]) : FC Tryz.prog 180 [fmD a] [bD a.forms] := by
 have hl : a.parts.length <= 9223372036854775807 := by rw [Fm.wt_eq] at hs; omega
 have hN := a.forms_eq
 simp only [fmD, zab]
 refine zah Tryz.call180 Tryz.func180 rfl (by kernel_rfl) (zat (by kernel_rfl)) ?_
 simp -implicitDefEqProofs only [go_sem, Tryz.results180]
 refine callF (qbu a hs) (by simp -implicitDefEqProofs only [go_sem, zab]) ?_
 simp -implicitDefEqProofs only [go_sem, zab]
 refine ⟨fun h => ?_, fun h => ?_⟩
 ·rw [hN, show a.here = false by simpa using h]; rfl
 ·rw [show a.here = true by simpa using h, Bool.true_and] at hN
  refine zae (fun k : Nat => hd [(1, .one (.bx 1 0)), (3, vI k)] [(1, [.t (.int .i64 a.op), .t (.str a.atom.name), .t (tmS a.atom.args), .t (.str a.var), .t (fmS a.parts)])] []) (fun k => k <= a.parts.length /\ a.forms = (a.parts.drop k).all Fm.forms) (fun k => a.parts.length - k) 0 (zac ?_) ?_ ?_
  ·simp -implicitDefEqProofs only [go_sem]
  ·exact ⟨by simp, hN⟩
  ·intro k ⟨hk, hr⟩
   by_cases hlt : k < a.parts.length
   ·rw [List.drop_eq_getElem_cons hlt, List.all_cons] at hr
    simp -implicitDefEqProofs only [go_sem, zag, hlt, zab]
    refine callF (H a.parts[k] (List.getElem_mem hlt)) (by simp -implicitDefEqProofs only [go_sem, zab]) ?_
    simp -implicitDefEqProofs only [go_sem, zab]
    refine ⟨fun h => ?_, fun h => ⟨k + 1, ⟨hlt, ?_⟩, by omega, zac (by simp -implicitDefEqProofs only [go_sem]; rw [zao (by omega)])⟩⟩
    ·rw [hr, show a.parts[k].forms = false by simpa using h]; rfl
    ·rw [hr, show a.parts[k].forms = true by simpa using h]; rfl
   ·simp -implicitDefEqProofs only [go_sem, hlt]
    rw [hr, List.drop_of_length_le (by omega)]; rfl
theorem zzj : ∀ a : Fm, a.wt <= 1099511627776 -> FC Tryz.prog 180 [fmD a] [bD a.forms] :=
 za6 fun o a v xs ih hs => ztw (.mk o a v xs) hs fun x hx => ih x hx (Nat.le_trans (zbm (a := .mk o a v xs) hx) hs)
def Fm.good (a : Fm) : Bool := decide (a.nodes <= 40) && a.forms
theorem zhh (a : Fm) (hs : a.wt <= 1099511627776) : FC Tryz.prog 114 [fmD a] [bD a.good] := by
 simp only [fmD, zab]
 refine zah Tryz.call114 Tryz.func114 rfl (by kernel_rfl) (zat (by kernel_rfl)) ?_
 simp -implicitDefEqProofs only [go_sem, Tryz.results114]
 refine callF (qdt a hs 40 (by omega) (by omega)) (by simp -implicitDefEqProofs only [go_sem, zab]) ?_
 simp -implicitDefEqProofs only [go_sem, zab]
 rw [show decide (zee a 40 <= 40) = decide (a.nodes <= 40) from qd6 a 40]
 refine ⟨fun h => ?_, fun h => ?_⟩
 ·refine callF (zzj a hs) (by simp -implicitDefEqProofs only [go_sem, zab]) ?_
  simp -implicitDefEqProofs only [go_sem, zab]
  rw [Fm.good, h, Bool.true_and]
 ·rw [Fm.good, h, Bool.false_and]
end Go.Proofs.YtemnhgmgeijkcaaGreat
