/-
  The walk over plain data, and contracts of functions of the program and of its laws.
  Conditions: those that each theorem names.
-/
import Derived.Test.YtemnhgmgeijkcaaGreatQO6
import Derived.Test.YtemnhgmgeijkcaaGreatQO4
import Derived.RangeFuncNested
import Derived.RangeFuncBound
import Derived.RangeFuncCalls
import Derived.TacticsInMore
import Derived.LoopNIn
import Derived.LoopIn
import Derived.Test.YtemnhgmgeijkcaaGreatQO5
import Derived.MapKept
import Derived.Lib.Walk
import Derived.Lib.SliceRun
import Derived.Lib.AppendZeros
namespace Go.Proofs.YtemnhgmgeijkcaaGreat
set_option linter.unusedSimpArgs false
set_option linter.unusedVariables false
set_option linter.unusedSectionVars false
set_option maxRecDepth 4000
open Go.RowKit
theorem zu4 (n : Str) (t : Tm) (x : Str) : FC Tryz.prog 239 [.agg [sbS [(n, t)]], sD x] [iD (if (n == x) = true then 0 else -1)] := by
 have hS : sbS [(n, t)] = .sl 3 [[.str n, .str t.name, .sl 2 (t.args.map tmC)]] := by unfold sbS; rw [List.map_singleton, zg7]
 rw [hS]
 refine zah Tryz.call239 Tryz.func239 rfl (by kernel_rfl) (zat (by kernel_rfl)) ?_
 simp -implicitDefEqProofs only [go_sem, Tryz.results239]
 refine zaf (fun k : Nat => hd [(1, vT (.str x)), (2, .one (.bx 2 0)), (5, vI k)] [(2, [.t (.sl 3 [[.str n, .str t.name, .sl 2 (t.args.map tmC)]])])] []) (fun k => k = 0 \/ (k = 1 /\ (n == x) = false)) (fun k => 1 - k) 0 (zac ?_) (Or.inl rfl) ?_
 ·simp -implicitDefEqProofs only [go_sem]
 ·rintro k (rfl | ⟨rfl, hn⟩)
  ·cases hn : n == x
   ·simp -implicitDefEqProofs only [go_sem, hn]
    refine ⟨1, Or.inr rfl, by decide, zac ?_⟩
    have hz : IntKind.i64.wrap 1 = 1 := by decide
    simp -implicitDefEqProofs only [go_sem, hz]
   ·simp -implicitDefEqProofs only [go_sem, hn]
  ·simp -implicitDefEqProofs only [go_sem, hn]
theorem qau (n : Str) (t : Tm) (ht : t.wt <= 1048576) (hn : (t.name == n) = false) : FC Tryz.prog 176 [.agg [sbS []], sD n, tmD t] [.agg [sbS [(n, t)]]] := by
 have hS : sbS [(n, t)] = .sl 3 [[.str n, .str t.name, .sl 2 (t.args.map tmC)]] := by unfold sbS; rw [List.map_singleton, zg7]
 have hS0 : sbS [] = .sl 3 [] := rfl
 have HK := zqn t ht
 rw [hS, hS0]
 simp only [tmD, zab t] at HK ⊢
 refine zgf Tryz.call176 Tryz.func176 rfl (by kernel_rfl) (zat (by kernel_rfl)) ?_
 simp -implicitDefEqProofs only [go_sem, Tryz.results176, hn]
 refine zaf (fun k : Nat => hd [(1, vT (.str n)), (3, .one (.bx 3 0)), (5, .one (.bx 5 0)), (6, .one (.bx 6 0)), (7, vI (0 : Nat))] [(3, [.rn (.sl 3 [])]), (5, [.t (.str t.name), .rn (.sl 2 (t.args.map tmC))]), (6, [.nl 3])] []) (fun k => k = 0) (fun k => 0) 0 (zac ?_) rfl ?_
 ·simp -implicitDefEqProofs only [go_sem]
 ·rintro k rfl
  simp -implicitDefEqProofs only [go_sem]
  refine zaj (by simp -implicitDefEqProofs only [go_sem]) ?_
  simp -implicitDefEqProofs only [go_sem]
  refine apD true (by simp -implicitDefEqProofs only [go_sem, ne_eq]) ?_
  simp -implicitDefEqProofs only [go_sem, ne_eq]
  refine callF (HK) (by simp -implicitDefEqProofs only [go_sem]) ?_
  simp -implicitDefEqProofs only [go_sem]
  refine zaj (by simp -implicitDefEqProofs only [go_sem]) ?_
  simp -implicitDefEqProofs only [go_sem]
  refine apD true (by simp -implicitDefEqProofs only [go_sem, ne_eq]) ?_
  simp -implicitDefEqProofs only [go_sem, ne_eq]
  refine apD true (by simp -implicitDefEqProofs only [go_sem, ne_eq]) ?_
  simp -implicitDefEqProofs only [go_sem, ne_eq]
theorem zvo (n : Str) (t : Tm) (hn : (t.name == n) = true) : RC Tryz.prog 176 [.agg [sbS []], sD n, tmD t] [.agg [sbS []]] := by
 have hS0 : sbS [] = .sl 3 [] := rfl
 rw [hS0]
 simp only [tmD, zab t]
 refine RC_of Tryz.call176 Tryz.func176 rfl (by kernel_rfl) (zat (by kernel_rfl)) ?_
 simp -implicitDefEqProofs only [go_sem, Tryz.results176, hn]
def zgw (l : List (Str × Tm)) : Tm -> Tm := Tm.fold fun m _ rs => if zbi m = true then (match l.find? fun p => p.1 == m with | some p => p.2 | none => .mk m []) else .mk m rs
theorem zxa (l : List (Str × Tm)) (a : Tm) : zgw l a = if zbi a.name = true then (match l.find? fun p => p.1 == a.name with | some p => p.2 | none => .mk a.name []) else .mk a.name (a.args.map (zgw l)) := by unfold zgw; rw [Tm.fold_eq]
theorem zqs (x : Str) : FC Tryz.prog 239 [.agg [sbS []], sD x] [iD (-1)] := by
 have hS : sbS [] = .sl 3 [] := rfl
 rw [hS]
 refine zah Tryz.call239 Tryz.func239 rfl (by kernel_rfl) (zat (by kernel_rfl)) ?_
 simp -implicitDefEqProofs only [go_sem, Tryz.results239]
 refine zaf (fun k : Nat => hd [(1, vT (.str x)), (2, .one (.bx 2 0)), (5, vI (0 : Nat))] [(2, [.t (.sl 3 [])])] []) (fun k => k = 0) (fun k => 0) 0 (zac ?_) rfl ?_
 ·simp -implicitDefEqProofs only [go_sem]
 ·rintro k rfl
  simp -implicitDefEqProofs only [go_sem]
theorem zv6 (l : List (Str × Tm)) (hl : l.length <= 1) (hw : ∀ p ∈ l, p.2.wt <= 1048576) (a : Tm) (ha : a.args.length <= 1048576) (H : ∀ x ∈ a.args, FC Tryz.prog 175 [.agg [sbS l], tmD x] [tmD (zgw l x)]) : FC Tryz.prog 175 [.agg [sbS l], tmD a] [tmD (zgw l a)] := by
 have hv := zxa l a
 have HV := zh8 a.name
 cases hva : zbi a.name
 ·rw [hva, if_neg (by simp)] at hv
  rw [hva] at HV
  rw [hv]
  have e1 : tmD (.mk a.name (a.args.map (zgw l))) = .agg [.str a.name, .sl 2 (a.args.map fun x => tmC (zgw l x))] := by unfold tmD; rw [zab]; simp only [Tm.name, Tm.args, List.map_map, Function.comp_def]
  rw [e1]
  simp only [tmD, zab a] at H ⊢
  unfold sbS at H ⊢
  generalize l.map bnC = L at H ⊢
  refine zah Tryz.call175 Tryz.func175 rfl (by kernel_rfl) (zat (by kernel_rfl)) ?_
  simp -implicitDefEqProofs only [go_sem, Tryz.results175]
  refine callF (HV) (by simp -implicitDefEqProofs only [go_sem]) ?_
  simp -implicitDefEqProofs only [go_sem]
  refine zaf (fun k : Nat => hd [(2, .one (.bx 2 0)), (3, .one (.bx 3 0)), (4, .one (.bx 4 0)), (6, .one (.bx 6 0)), (7, vI k)] [(2, [.t (.sl 3 L)]), (3, [.t (.str a.name), .t (tmS a.args)]), (4, [.t (.str []), .nl 2]), (6, [.t (.str a.name), .ow 3000 0])] [(3000, ⟨true, 2, (a.args.take k).map fun x => tmC (zgw l x), 0, true⟩)]) (fun k => k <= a.args.length) (fun k => a.args.length - k) 0 (zac ?_) (Nat.zero_le _) ?_
  ·simp -implicitDefEqProofs only [go_sem]
  ·intro k hk
   by_cases hlt : k < a.args.length
   ·have HC := H a.args[k] (List.getElem_mem hlt)
    have hmin : min k a.args.length <= 4294967295 := by omega
    simp only [zab a.args[k], zab (zgw l a.args[k])] at HC
    simp -implicitDefEqProofs only [go_sem, hlt]
    refine drawn (by kernel_rfl) ?_
    simp -implicitDefEqProofs only [go_sem, zad, hlt, zab a.args[k]]
    refine zan (HC) (by simp -implicitDefEqProofs only [go_sem]) ?_
    simp -implicitDefEqProofs only [go_sem]
    refine zbt (by simp -implicitDefEqProofs only [go_sem]) ?_
    simp -implicitDefEqProofs only [go_sem]
    refine zp6 true (by simp -implicitDefEqProofs only [go_sem, ne_eq, List.length_map, List.length_take, hmin]) ?_
    simp -implicitDefEqProofs only [go_sem, ne_eq, List.length_map, List.length_take, hmin]
    refine ⟨by kernel_rfl, k + 1, hlt, by omega, zac ?_⟩
    simp -implicitDefEqProofs only [go_sem]
    rw [zav (by omega), List.take_succ_eq_append_getElem hlt, List.map_append, List.map_singleton]
    simp only [zab]
    trivial
   ·have ht : a.args.take k = a.args := List.take_of_length_le (by omega)
    simp -implicitDefEqProofs only [go_sem, hlt, ht]
 ·rw [hva, if_pos rfl] at hv
  rw [hva] at HV
  rw [hv]
  match l, hl with
  | [], _ =>
   have HN := zqs a.name
   simp only [List.find?_nil]
   have e1 : tmD (.mk a.name []) = .agg [.str a.name, .sl 2 []] := rfl
   have hS : sbS [] = .sl 3 [] := rfl
   rw [hS] at HN ⊢
   rw [e1]
   simp only [tmD, zab a]
   refine zah Tryz.call175 Tryz.func175 rfl (by kernel_rfl) (zat (by kernel_rfl)) ?_
   simp -implicitDefEqProofs only [go_sem, Tryz.results175]
   refine callF (HV) (by simp -implicitDefEqProofs only [go_sem]) ?_
   simp -implicitDefEqProofs only [go_sem]
   refine callF (HN) (by simp -implicitDefEqProofs only [go_sem]) ?_
   simp -implicitDefEqProofs only [go_sem]
  | [(n, t)], _ =>
   have HO := zu4 n t a.name
   have HK := zqn t (hw (n, t) (by simp))
   have hS : sbS [(n, t)] = .sl 3 [[.str n, .str t.name, .sl 2 (t.args.map tmC)]] := by unfold sbS; rw [List.map_singleton, zg7]
   rw [hS] at HO ⊢
   cases hn : n == a.name
   ·rw [hn] at HO
    simp only [List.find?_cons, hn, List.find?_nil]
    have e1 : tmD (.mk a.name []) = .agg [.str a.name, .sl 2 []] := rfl
    rw [e1]
    simp only [tmD, zab a]
    refine zah Tryz.call175 Tryz.func175 rfl (by kernel_rfl) (zat (by kernel_rfl)) ?_
    simp -implicitDefEqProofs only [go_sem, Tryz.results175]
    refine callF (HV) (by simp -implicitDefEqProofs only [go_sem]) ?_
    simp -implicitDefEqProofs only [go_sem]
    refine callF (HO) (by simp -implicitDefEqProofs only [go_sem]) ?_
    simp -implicitDefEqProofs only [go_sem]
   ·rw [hn] at HO
    simp only [List.find?_cons, hn]
    simp only [tmD, zab a, zab t] at HK ⊢
    refine zah Tryz.call175 Tryz.func175 rfl (by kernel_rfl) (zat (by kernel_rfl)) ?_
    simp -implicitDefEqProofs only [go_sem, Tryz.results175]
    refine callF (HV) (by simp -implicitDefEqProofs only [go_sem]) ?_
    simp -implicitDefEqProofs only [go_sem]
    refine callF (HO) (by simp -implicitDefEqProofs only [go_sem]) ?_
    simp -implicitDefEqProofs only [go_sem]
    refine callF (HK) (by simp -implicitDefEqProofs only [go_sem]) ?_
    simp -implicitDefEqProofs only [go_sem]
theorem zzx (l : List (Str × Tm)) (hl : l.length <= 1) (hw : ∀ p ∈ l, p.2.wt <= 1048576) : ∀ a : Tm, a.wt <= 1048576 -> FC Tryz.prog 175 [.agg [sbS l], tmD a] [tmD (zgw l a)] :=
 zby fun m xs ih hs => by
  obtain ⟨h1, h2⟩ := Tm.wt_args hs
  exact zv6 l hl hw (.mk m xs) h1 fun x hx => ih x hx (h2 x hx)
end Go.Proofs.YtemnhgmgeijkcaaGreat
namespace Go.Proofs.YtemnhgmgeijkcaaGreat
set_option linter.unusedSimpArgs false
set_option linter.unusedVariables false
set_option linter.unusedSectionVars false
set_option maxRecDepth 4000
open Go.RowKit
def bnd (n : Str) (t : Tm) : List (Str × Tm) := if (t.name == n) = true then [] else [(n, t)]
def qcl (ps : List Fm) : List Str := match ps with
 | p :: _ => zba [] (vf p [])
 | [] => []
def zc1 (n : Str) (t : Tm) : Fm -> Fm × Bool := Fm.fold fun o a v ps rs =>
 if (o == 3) = true then (.mk o (zgw (bnd n t) a) v [], (zgw (bnd n t) a).atomOk)
 else if (isQ o && (v == n || !((qcl ps).contains n))) = true then (.mk o a v ps, true)
 else if (isQ o && (zba [] (voS t)).contains v) = true then (.mk o (.mk [] []) v [], false)
 else (.mk o (.mk [] []) v ((rs.takeWhile Prod.snd).map Prod.fst), rs.all Prod.snd)
theorem qgu {α β : Type} (p : β -> Bool) (f : α -> β) : ∀ xs : List α, (xs.map f).takeWhile p = (xs.takeWhile fun x => p (f x)).map f
 | [] => rfl
 | x :: xs => by
  simp only [List.map_cons, List.takeWhile_cons]
  cases p (f x)
  ·rfl
  ·simp only [if_true, List.map_cons, qgu p f xs]
theorem zxi (n : Str) (t : Tm) (f : Fm) : zc1 n t f = if (f.op == 3) = true then (.mk f.op (zgw (bnd n t) f.atom) f.var [], (zgw (bnd n t) f.atom).atomOk)
  else if (isQ f.op && (f.var == n || !((qcl f.parts).contains n))) = true then (f, true)
  else if (isQ f.op && (zba [] (voS t)).contains f.var) = true then (.mk f.op (.mk [] []) f.var [], false)
  else (.mk f.op (.mk [] []) f.var ((f.parts.takeWhile fun x => (zc1 n t x).2).map fun x => (zc1 n t x).1), f.parts.all fun x => (zc1 n t x).2) := by
 cases f with
 | mk o a v ps =>
  conv => lhs; unfold zc1; rw [Fm.fold_eq]
  simp only [qgu, List.map_map, List.all_map]
  rfl
theorem qic {f : Fm} (h : isQ f.op = true) (hf : f.forms = true) : ∃ p, f.parts = [p] /\ p.forms = true := by
 rw [Fm.forms_eq, Bool.and_eq_true] at hf
 have h1 := hf.1
 unfold Fm.here at h1
 have h2 : (f.op == 1 || f.op == 2) = false /\ (f.op == 3) = false /\ (f.op == 4) = false /\ znn f.op = false := by
  have h8 : f.op = 8 \/ f.op = 9 := by unfold isQ at h; rw [Bool.or_eq_true, beq_iff_eq, beq_iff_eq] at h; exact h
  rcases h8 with e | e <;> rw [e] <;> decide
 rw [h2.1, h2.2.1, h2.2.2.1, h2.2.2.2, h] at h1
 simp only [Bool.false_eq_true, if_false, if_true, Bool.and_eq_true, decide_eq_true_eq] at h1
 obtain ⟨p, hp⟩ := List.length_eq_one_iff.1 h1.1.1
 exact ⟨p, hp, List.all_eq_true.1 hf.2 p (by rw [hp]; simp)⟩
theorem qil (n : Str) (t : Tm) : (bnd n t).length <= 1 := by unfold bnd; split <;> simp
theorem bnd_wt (n : Str) (t : Tm) (ht : t.wt <= 1048576) : ∀ p ∈ bnd n t, p.2.wt <= 1048576 := by
 unfold bnd
 split
 ·simp
 ·intro p hp; simp at hp; rw [hp]; exact ht
set_option maxHeartbeats 2000000 in
theorem qez (n : Str) (t : Tm) (ht : t.wt <= 1048576) (f : Fm) (hf : f.forms = true) (hw : f.wt <= 1048576) (hwa : (zgw (bnd n t) f.atom).wt <= 1099511627776) (H : ∀ x ∈ f.parts, FC Tryz.prog 113 [fmD x, sD n, tmD t] [fmD (zc1 n t x).1, bD (zc1 n t x).2]) :
  FC Tryz.prog 113 [fmD f, sD n, tmD t] [fmD (zc1 n t f).1, bD (zc1 n t f).2] := by
 have hv := zxi n t f
 have hfl : f.parts.length <= 1048576 := by have := f.wt_eq; omega
 cases h3 : f.op == 3
 ·rw [h3, if_neg (by simp)] at hv
  cases hq : isQ f.op
  ·rw [hq, Bool.false_and, if_neg (by simp), Bool.false_and, if_neg (by simp)] at hv
   have hq8 : (f.op == 8) = false /\ (f.op == 9) = false := by unfold isQ at hq; rw [Bool.or_eq_false_iff] at hq; exact hq
   simp only [fmD, zaa f, tmD, zab t]
   refine zah Tryz.call113 Tryz.func113 rfl (by kernel_rfl) (zat (by kernel_rfl)) ?_
   simp -implicitDefEqProofs only [go_sem, Tryz.results113, h3, hq8.1, hq8.2]
   refine zaf (fun k : Nat => hd [(1, vT (.str n)), (3, .one (.bx 3 0)), (5, .one (.bx 5 0)), (6, .one (.bx 6 0)), (8, .one (.bx 8 0)), (9, vI k)] [(3, [.t (.int .i64 f.op), .t (.str f.atom.name), .t (tmS f.atom.args), .t (.str f.var), .t (fmS f.parts)]), (5, [.t (.str t.name), .t (tmS t.args)]), (6, [.t (.int .i64 0), .t (.str []), .nl 2, .t (.str []), .nl 5]), (8, [.t (.int .i64 f.op), .t (.str []), .nl 2, .t (.str f.var), .ow 8000 0])] [(8000, ⟨true, 5, (f.parts.take k).map fun x => fmC (zc1 n t x).1, 0, true⟩)]) (fun k => k <= f.parts.length /\ ∀ x ∈ f.parts.take k, (zc1 n t x).2 = true) (fun k => f.parts.length - k) 0 (zac ?_) ⟨Nat.zero_le _, by simp⟩ ?_
   ·simp -implicitDefEqProofs only [go_sem]
   ·rintro k ⟨hk, hT⟩
    by_cases hlt : k < f.parts.length
    ·have HC := H f.parts[k] (List.getElem_mem hlt)
     have hmin : min k f.parts.length <= 4294967295 := by omega
     simp only [fmD, zaa f.parts[k], zaa (zc1 n t f.parts[k]).1, tmD, zab t] at HC
     cases hk2 : (zc1 n t f.parts[k]).2
     ·rw [hk2] at HC
      have htw := (zed (p := fun x => (zc1 n t x).2) hk hT fun _ => hk2).1
      have hall : (f.parts.all fun x => (zc1 n t x).2) = false := by rw [List.all_eq_false]; exact ⟨_, List.getElem_mem hlt, by rw [hk2]; simp⟩
      rw [htw, hall] at hv
      rw [hv]
      simp -implicitDefEqProofs only [go_sem, hlt]
      refine drawn (by kernel_rfl) ?_
      simp -implicitDefEqProofs only [go_sem, zad, hlt, zaa f.parts[k]]
      refine zan (HC) (by simp -implicitDefEqProofs only [go_sem]) ?_
      simp -implicitDefEqProofs only [go_sem]
      refine ⟨by kernel_rfl, ?_⟩
      simp -implicitDefEqProofs only [go_sem, zc9, List.map_map, Function.comp_def]
      exact ⟨rfl, rfl⟩
     ·rw [hk2] at HC
      simp -implicitDefEqProofs only [go_sem, hlt]
      refine drawn (by kernel_rfl) ?_
      simp -implicitDefEqProofs only [go_sem, zad, hlt, zaa f.parts[k]]
      refine zan (HC) (by simp -implicitDefEqProofs only [go_sem]) ?_
      simp -implicitDefEqProofs only [go_sem]
      refine ⟨by kernel_rfl, ?_⟩
      refine zaj (by simp -implicitDefEqProofs only [go_sem]) ?_
      simp -implicitDefEqProofs only [go_sem]
      refine apD true (by simp -implicitDefEqProofs only [go_sem, ne_eq, List.length_map, List.length_take, hmin]) ?_
      simp -implicitDefEqProofs only [go_sem, ne_eq, List.length_map, List.length_take, hmin]
      refine ⟨k + 1, ⟨hlt, fun x hx => ?_⟩, by omega, zac ?_⟩
      ·rw [List.take_succ_eq_append_getElem hlt] at hx
       rcases List.mem_append.1 hx with hx | hx
       ·exact hT x hx
       ·rw [List.mem_singleton] at hx; subst hx; exact hk2
      ·simp -implicitDefEqProofs only [go_sem]
       rw [zav (by omega), List.take_succ_eq_append_getElem hlt, List.map_append, List.map_singleton]
       simp only [zaa]
       trivial
    ·have htk : f.parts.take k = f.parts := List.take_of_length_le (by omega)
     rw [htk] at hT
     have hall : (f.parts.all fun x => (zc1 n t x).2) = true := List.all_eq_true.2 hT
     have htw : (f.parts.takeWhile fun x => (zc1 n t x).2) = f.parts := by
      have := (zed (l := f.parts) (p := fun x => (zc1 n t x).2) (k := f.parts.length) (Nat.le_refl _) (by rw [List.take_length]; exact hT) fun h => absurd h (Nat.lt_irrefl _)).1
      rw [this, List.take_length]
     rw [htw, hall] at hv
     rw [hv]
     simp -implicitDefEqProofs only [go_sem, hlt, htk, zc9, List.map_map, Function.comp_def]
     exact ⟨rfl, rfl⟩
  ·obtain ⟨q, hp, hpf⟩ := qic hq hf
   have key : (f.op == 8) = true \/ ((f.op == 8) = false /\ (f.op == 9) = true) := by
    have hq8 := hq
    unfold isQ at hq8
    cases h8 : f.op == 8
    ·rw [h8, Bool.false_or] at hq8; exact Or.inr ⟨rfl, hq8⟩
    ·exact Or.inl rfl
   have HFr := qem q hpf (by have := f.wt_eq; rw [hp] at this; simp only [List.map_cons, List.map_nil, List.sum_cons, List.sum_nil] at this; omega)
   have HOw := zrj f hw
   have hfr : qcl f.parts = zba [] (vf q []) := by rw [hp]; rfl
   rw [hfr] at hv
   generalize zba [] (vf q []) = V at hv HFr
   have HIn := ztk V n
   have hvl := zl8 t
   have HVs := zss t (by omega) (by omega)
   generalize zba [] (voS t) = TV at hv HVs
   have HIt := ztk TV f.var
   rw [hq, Bool.true_and, Bool.true_and] at hv
   have hp0 : f.parts.length = 1 := by rw [hp]; rfl
   have e0 : (List.map fmC f.parts).getD 0 [] = fmC q := by rw [hp]; rfl
   cases hvn : f.var == n
   ·rw [hvn, Bool.false_or] at hv
    cases hcn : V.contains n
    ·rw [hcn, if_pos (by simp)] at hv
     rw [hcn] at HIn
     rw [hv]
     simp only [fmD, zaa f, tmD, zab t, zaa q] at HOw HFr ⊢
     rcases key with e8 | ⟨e8, e9⟩
     ·refine zah Tryz.call113 Tryz.func113 rfl (by kernel_rfl) (zat (by kernel_rfl)) ?_
      simp -implicitDefEqProofs only [go_sem, Tryz.results113, h3, e8, hvn, hp0, e0, zaa q]
      refine callF (HFr) (by simp -implicitDefEqProofs only [go_sem]) ?_
      simp -implicitDefEqProofs only [go_sem]
      refine callF (HIn) (by simp -implicitDefEqProofs only [go_sem]) ?_
      simp -implicitDefEqProofs only [go_sem]
      refine callF (HOw) (by simp -implicitDefEqProofs only [go_sem]) ?_
      simp -implicitDefEqProofs only [go_sem]
     ·refine zah Tryz.call113 Tryz.func113 rfl (by kernel_rfl) (zat (by kernel_rfl)) ?_
      simp -implicitDefEqProofs only [go_sem, Tryz.results113, h3, e8, e9, hvn, hp0, e0, zaa q]
      refine callF (HFr) (by simp -implicitDefEqProofs only [go_sem]) ?_
      simp -implicitDefEqProofs only [go_sem]
      refine callF (HIn) (by simp -implicitDefEqProofs only [go_sem]) ?_
      simp -implicitDefEqProofs only [go_sem]
      refine callF (HOw) (by simp -implicitDefEqProofs only [go_sem]) ?_
      simp -implicitDefEqProofs only [go_sem]
    ·rw [hcn, if_neg (by simp)] at hv
     rw [hcn] at HIn
     cases hti : TV.contains f.var
     ·rw [hti, if_neg (by simp)] at hv
      rw [hti] at HIt
      simp only [fmD, zaa f, tmD, zab t, zaa q] at HVs HFr ⊢
      rcases key with e8 | ⟨e8, e9⟩
      ·refine zah Tryz.call113 Tryz.func113 rfl (by kernel_rfl) (zat (by kernel_rfl)) ?_
       simp -implicitDefEqProofs only [go_sem, Tryz.results113, h3, e8, hvn, hp0, e0, zaa q]
       refine callF (HFr) (by simp -implicitDefEqProofs only [go_sem]) ?_
       simp -implicitDefEqProofs only [go_sem]
       refine callF (HIn) (by simp -implicitDefEqProofs only [go_sem]) ?_
       simp -implicitDefEqProofs only [go_sem]
       refine drawn (by kernel_rfl) ?_
       simp -implicitDefEqProofs only [go_sem]
       refine zan (HVs) (by simp -implicitDefEqProofs only [go_sem]) ?_
       simp -implicitDefEqProofs only [go_sem]
       refine zan (HIt) (by simp -implicitDefEqProofs only [go_sem]) ?_
       simp -implicitDefEqProofs only [go_sem]
       refine ⟨by kernel_rfl, ?_⟩
       refine zaf (fun k : Nat => hd [(1, vT (.str n)), (3, .one (.bx 3 0)), (5, .one (.bx 5 0)), (6, .one (.bx 6 0)), (8, .one (.bx 8 0)), (9, vI k)] [(3, [.t (.int .i64 f.op), .t (.str f.atom.name), .t (tmS f.atom.args), .t (.str f.var), .t (fmS f.parts)]), (5, [.t (.str t.name), .t (tmS t.args)]), (6, [.t (.int .i64 0), .t (.str []), .nl 2, .t (.str []), .nl 5]), (8, [.t (.int .i64 f.op), .t (.str []), .nl 2, .t (.str f.var), .ow 8000 0])] [(8000, ⟨true, 5, (f.parts.take k).map fun x => fmC (zc1 n t x).1, 0, true⟩)]) (fun k => k <= f.parts.length /\ ∀ x ∈ f.parts.take k, (zc1 n t x).2 = true) (fun k => f.parts.length - k) 0 (zac ?_) ⟨Nat.zero_le _, by simp⟩ ?_
       ·simp -implicitDefEqProofs only [go_sem]
       ·rintro k ⟨hk, hT⟩
        by_cases hlt : k < f.parts.length
        ·have HC := H f.parts[k] (List.getElem_mem hlt)
         have hmin : min k f.parts.length <= 4294967295 := by omega
         simp only [fmD, zaa f.parts[k], zaa (zc1 n t f.parts[k]).1, tmD, zab t] at HC
         cases hk2 : (zc1 n t f.parts[k]).2
         ·rw [hk2] at HC
          have htw := (zed (p := fun x => (zc1 n t x).2) hk hT fun _ => hk2).1
          have hall : (f.parts.all fun x => (zc1 n t x).2) = false := by rw [List.all_eq_false]; exact ⟨_, List.getElem_mem hlt, by rw [hk2]; simp⟩
          rw [htw, hall] at hv
          rw [hv]
          simp -implicitDefEqProofs only [go_sem, hlt]
          refine drawn (by kernel_rfl) ?_
          simp -implicitDefEqProofs only [go_sem, zad, hlt, zaa f.parts[k]]
          refine zan (HC) (by simp -implicitDefEqProofs only [go_sem]) ?_
          simp -implicitDefEqProofs only [go_sem]
          refine ⟨by kernel_rfl, ?_⟩
          simp -implicitDefEqProofs only [go_sem, zc9, List.map_map, Function.comp_def]
          exact ⟨rfl, rfl⟩
         ·rw [hk2] at HC
          simp -implicitDefEqProofs only [go_sem, hlt]
          refine drawn (by kernel_rfl) ?_
          simp -implicitDefEqProofs only [go_sem, zad, hlt, zaa f.parts[k]]
          refine zan (HC) (by simp -implicitDefEqProofs only [go_sem]) ?_
          simp -implicitDefEqProofs only [go_sem]
          refine ⟨by kernel_rfl, ?_⟩
          refine zaj (by simp -implicitDefEqProofs only [go_sem]) ?_
          simp -implicitDefEqProofs only [go_sem]
          refine apD true (by simp -implicitDefEqProofs only [go_sem, ne_eq, List.length_map, List.length_take, hmin]) ?_
          simp -implicitDefEqProofs only [go_sem, ne_eq, List.length_map, List.length_take, hmin]
          refine ⟨k + 1, ⟨hlt, fun x hx => ?_⟩, by omega, zac ?_⟩
          ·rw [List.take_succ_eq_append_getElem hlt] at hx
           rcases List.mem_append.1 hx with hx | hx
           ·exact hT x hx
           ·rw [List.mem_singleton] at hx; subst hx; exact hk2
          ·simp -implicitDefEqProofs only [go_sem]
           rw [zav (by omega), List.take_succ_eq_append_getElem hlt, List.map_append, List.map_singleton]
           simp only [zaa]
           trivial
        ·have htk : f.parts.take k = f.parts := List.take_of_length_le (by omega)
         rw [htk] at hT
         have hall : (f.parts.all fun x => (zc1 n t x).2) = true := List.all_eq_true.2 hT
         have htw : (f.parts.takeWhile fun x => (zc1 n t x).2) = f.parts := by
          have := (zed (l := f.parts) (p := fun x => (zc1 n t x).2) (k := f.parts.length) (Nat.le_refl _) (by rw [List.take_length]; exact hT) fun h => absurd h (Nat.lt_irrefl _)).1
          rw [this, List.take_length]
         rw [htw, hall] at hv
         rw [hv]
         simp -implicitDefEqProofs only [go_sem, hlt, htk, zc9, List.map_map, Function.comp_def]
         exact ⟨rfl, rfl⟩
      ·refine zah Tryz.call113 Tryz.func113 rfl (by kernel_rfl) (zat (by kernel_rfl)) ?_
       simp -implicitDefEqProofs only [go_sem, Tryz.results113, h3, e8, e9, hvn, hp0, e0, zaa q]
       refine callF (HFr) (by simp -implicitDefEqProofs only [go_sem]) ?_
       simp -implicitDefEqProofs only [go_sem]
       refine callF (HIn) (by simp -implicitDefEqProofs only [go_sem]) ?_
       simp -implicitDefEqProofs only [go_sem]
       refine drawn (by kernel_rfl) ?_
       simp -implicitDefEqProofs only [go_sem]
       refine zan (HVs) (by simp -implicitDefEqProofs only [go_sem]) ?_
       simp -implicitDefEqProofs only [go_sem]
       refine zan (HIt) (by simp -implicitDefEqProofs only [go_sem]) ?_
       simp -implicitDefEqProofs only [go_sem]
       refine ⟨by kernel_rfl, ?_⟩
       refine zaf (fun k : Nat => hd [(1, vT (.str n)), (3, .one (.bx 3 0)), (5, .one (.bx 5 0)), (6, .one (.bx 6 0)), (8, .one (.bx 8 0)), (9, vI k)] [(3, [.t (.int .i64 f.op), .t (.str f.atom.name), .t (tmS f.atom.args), .t (.str f.var), .t (fmS f.parts)]), (5, [.t (.str t.name), .t (tmS t.args)]), (6, [.t (.int .i64 0), .t (.str []), .nl 2, .t (.str []), .nl 5]), (8, [.t (.int .i64 f.op), .t (.str []), .nl 2, .t (.str f.var), .ow 8000 0])] [(8000, ⟨true, 5, (f.parts.take k).map fun x => fmC (zc1 n t x).1, 0, true⟩)]) (fun k => k <= f.parts.length /\ ∀ x ∈ f.parts.take k, (zc1 n t x).2 = true) (fun k => f.parts.length - k) 0 (zac ?_) ⟨Nat.zero_le _, by simp⟩ ?_
       ·simp -implicitDefEqProofs only [go_sem]
       ·rintro k ⟨hk, hT⟩
        by_cases hlt : k < f.parts.length
        ·have HC := H f.parts[k] (List.getElem_mem hlt)
         have hmin : min k f.parts.length <= 4294967295 := by omega
         simp only [fmD, zaa f.parts[k], zaa (zc1 n t f.parts[k]).1, tmD, zab t] at HC
         cases hk2 : (zc1 n t f.parts[k]).2
         ·rw [hk2] at HC
          have htw := (zed (p := fun x => (zc1 n t x).2) hk hT fun _ => hk2).1
          have hall : (f.parts.all fun x => (zc1 n t x).2) = false := by rw [List.all_eq_false]; exact ⟨_, List.getElem_mem hlt, by rw [hk2]; simp⟩
          rw [htw, hall] at hv
          rw [hv]
          simp -implicitDefEqProofs only [go_sem, hlt]
          refine drawn (by kernel_rfl) ?_
          simp -implicitDefEqProofs only [go_sem, zad, hlt, zaa f.parts[k]]
          refine zan (HC) (by simp -implicitDefEqProofs only [go_sem]) ?_
          simp -implicitDefEqProofs only [go_sem]
          refine ⟨by kernel_rfl, ?_⟩
          simp -implicitDefEqProofs only [go_sem, zc9, List.map_map, Function.comp_def]
          exact ⟨rfl, rfl⟩
         ·rw [hk2] at HC
          simp -implicitDefEqProofs only [go_sem, hlt]
          refine drawn (by kernel_rfl) ?_
          simp -implicitDefEqProofs only [go_sem, zad, hlt, zaa f.parts[k]]
          refine zan (HC) (by simp -implicitDefEqProofs only [go_sem]) ?_
          simp -implicitDefEqProofs only [go_sem]
          refine ⟨by kernel_rfl, ?_⟩
          refine zaj (by simp -implicitDefEqProofs only [go_sem]) ?_
          simp -implicitDefEqProofs only [go_sem]
          refine apD true (by simp -implicitDefEqProofs only [go_sem, ne_eq, List.length_map, List.length_take, hmin]) ?_
          simp -implicitDefEqProofs only [go_sem, ne_eq, List.length_map, List.length_take, hmin]
          refine ⟨k + 1, ⟨hlt, fun x hx => ?_⟩, by omega, zac ?_⟩
          ·rw [List.take_succ_eq_append_getElem hlt] at hx
           rcases List.mem_append.1 hx with hx | hx
           ·exact hT x hx
           ·rw [List.mem_singleton] at hx; subst hx; exact hk2
          ·simp -implicitDefEqProofs only [go_sem]
           rw [zav (by omega), List.take_succ_eq_append_getElem hlt, List.map_append, List.map_singleton]
           simp only [zaa]
           trivial
        ·have htk : f.parts.take k = f.parts := List.take_of_length_le (by omega)
         rw [htk] at hT
         have hall : (f.parts.all fun x => (zc1 n t x).2) = true := List.all_eq_true.2 hT
         have htw : (f.parts.takeWhile fun x => (zc1 n t x).2) = f.parts := by
          have := (zed (l := f.parts) (p := fun x => (zc1 n t x).2) (k := f.parts.length) (Nat.le_refl _) (by rw [List.take_length]; exact hT) fun h => absurd h (Nat.lt_irrefl _)).1
          rw [this, List.take_length]
         rw [htw, hall] at hv
         rw [hv]
         simp -implicitDefEqProofs only [go_sem, hlt, htk, zc9, List.map_map, Function.comp_def]
         exact ⟨rfl, rfl⟩
     ·rw [hti, if_pos rfl] at hv
      rw [hti] at HIt
      rw [hv]
      have e5 : fmD (.mk f.op (.mk [] []) f.var []) = .agg [.int .i64 f.op, .str [], .sl 2 [], .str f.var, .sl 5 []] := by unfold fmD; rw [zaa]; rfl
      rw [e5]
      simp only [fmD, zaa f, tmD, zab t, zaa q] at HVs HFr ⊢
      rcases key with e8 | ⟨e8, e9⟩
      ·refine zah Tryz.call113 Tryz.func113 rfl (by kernel_rfl) (zat (by kernel_rfl)) ?_
       simp -implicitDefEqProofs only [go_sem, Tryz.results113, h3, e8, hvn, hp0, e0, zaa q]
       refine callF (HFr) (by simp -implicitDefEqProofs only [go_sem]) ?_
       simp -implicitDefEqProofs only [go_sem]
       refine callF (HIn) (by simp -implicitDefEqProofs only [go_sem]) ?_
       simp -implicitDefEqProofs only [go_sem]
       refine drawn (by kernel_rfl) ?_
       simp -implicitDefEqProofs only [go_sem]
       refine zan (HVs) (by simp -implicitDefEqProofs only [go_sem]) ?_
       simp -implicitDefEqProofs only [go_sem]
       refine zan (HIt) (by simp -implicitDefEqProofs only [go_sem]) ?_
       simp -implicitDefEqProofs only [go_sem]
       kernel_rfl
      ·refine zah Tryz.call113 Tryz.func113 rfl (by kernel_rfl) (zat (by kernel_rfl)) ?_
       simp -implicitDefEqProofs only [go_sem, Tryz.results113, h3, e8, e9, hvn, hp0, e0, zaa q]
       refine callF (HFr) (by simp -implicitDefEqProofs only [go_sem]) ?_
       simp -implicitDefEqProofs only [go_sem]
       refine callF (HIn) (by simp -implicitDefEqProofs only [go_sem]) ?_
       simp -implicitDefEqProofs only [go_sem]
       refine drawn (by kernel_rfl) ?_
       simp -implicitDefEqProofs only [go_sem]
       refine zan (HVs) (by simp -implicitDefEqProofs only [go_sem]) ?_
       simp -implicitDefEqProofs only [go_sem]
       refine zan (HIt) (by simp -implicitDefEqProofs only [go_sem]) ?_
       simp -implicitDefEqProofs only [go_sem]
       kernel_rfl
   ·rw [hvn, Bool.true_or, if_pos rfl] at hv
    rw [hv]
    simp only [fmD, zaa f, tmD, zab t] at HOw ⊢
    rcases key with e8 | ⟨e8, e9⟩
    ·refine zah Tryz.call113 Tryz.func113 rfl (by kernel_rfl) (zat (by kernel_rfl)) ?_
     simp -implicitDefEqProofs only [go_sem, Tryz.results113, h3, e8, hvn]
     refine callF (HOw) (by simp -implicitDefEqProofs only [go_sem]) ?_
     simp -implicitDefEqProofs only [go_sem]
    ·refine zah Tryz.call113 Tryz.func113 rfl (by kernel_rfl) (zat (by kernel_rfl)) ?_
     simp -implicitDefEqProofs only [go_sem, Tryz.results113, h3, e8, e9, hvn]
     refine callF (HOw) (by simp -implicitDefEqProofs only [go_sem]) ?_
     simp -implicitDefEqProofs only [go_sem]
 ·rw [h3, if_pos rfl] at hv
  have HA := zzx (bnd n t) (qil n t) (bnd_wt n t ht) f.atom (by have := zic f; omega)
  rw [hv]
  generalize zgw (bnd n t) f.atom = R at HA hwa ⊢
  have HO := zsn R hwa
  cases hn : t.name == n
  ·have e0 : bnd n t = [(n, t)] := by unfold bnd; rw [hn, if_neg (by simp)]
   have HP := qau n t ht hn
   have hS0 : sbS [] = .sl 3 [] := rfl
   rw [e0] at HA
   generalize [(n, t)] = B at HA HP
   rw [hS0] at HP
   unfold sbS at HP HA
   generalize B.map bnC = L at HA HP
   simp only [fmD, zaa f, tmD, zab t, zab f.atom, zab R, zc9, List.map_nil] at HA HP HO ⊢
   refine zah Tryz.call113 Tryz.func113 rfl (by kernel_rfl) (zat (by kernel_rfl)) ?_
   simp -implicitDefEqProofs only [go_sem, Tryz.results113, h3]
   refine drawn (by kernel_rfl) ?_
   simp -implicitDefEqProofs only [go_sem]
   refine zan (HP) (by simp -implicitDefEqProofs only [go_sem]) ?_
   simp -implicitDefEqProofs only [go_sem]
   refine zan (HA) (by simp -implicitDefEqProofs only [go_sem]) ?_
   simp -implicitDefEqProofs only [go_sem]
   refine ⟨by kernel_rfl, ?_⟩
   refine drawn (by kernel_rfl) ?_
   simp -implicitDefEqProofs only [go_sem]
   refine zan (HO) (by simp -implicitDefEqProofs only [go_sem]) ?_
   simp -implicitDefEqProofs only [go_sem]
   kernel_rfl
  ·have e0 : bnd n t = [] := by unfold bnd; rw [hn, if_pos rfl]
   have HP := zvo n t hn
   have hS0 : sbS [] = .sl 3 [] := rfl
   rw [e0] at HA
   rw [hS0] at HP HA
   simp only [fmD, zaa f, tmD, zab t, zab f.atom, zab R, zc9, List.map_nil] at HA HP HO ⊢
   refine zah Tryz.call113 Tryz.func113 rfl (by kernel_rfl) (zat (by kernel_rfl)) ?_
   simp -implicitDefEqProofs only [go_sem, Tryz.results113, h3]
   refine drawn (by kernel_rfl) ?_
   simp -implicitDefEqProofs only [go_sem]
   refine zdn HP (by simp -implicitDefEqProofs only [go_sem]) ?_
   simp -implicitDefEqProofs only [go_sem]
   refine zan (HA) (by simp -implicitDefEqProofs only [go_sem]) ?_
   simp -implicitDefEqProofs only [go_sem]
   refine ⟨by kernel_rfl, ?_⟩
   refine drawn (by kernel_rfl) ?_
   simp -implicitDefEqProofs only [go_sem]
   refine zan (HO) (by simp -implicitDefEqProofs only [go_sem]) ?_
   simp -implicitDefEqProofs only [go_sem]
   kernel_rfl
end Go.Proofs.YtemnhgmgeijkcaaGreat
namespace Go.Proofs.YtemnhgmgeijkcaaGreat
set_option linter.unusedSimpArgs false
set_option linter.unusedVariables false
set_option linter.unusedSectionVars false
set_option maxRecDepth 4000
open Go.RowKit
theorem qim (n : Str) (t : Tm) : ∀ a : Tm, (zgm n t a).wt <= a.wt + a.nodes * t.wt := zby fun m xs ih => by
 rw [zxf, Tm.nodes_eq]
 show (if xs.length = 0 then (if (n == m) = true then t else .mk m []) else .mk m (xs.map (zgm n t))).wt <= (Tm.mk m xs).wt + (1 + (xs.map Tm.nodes).sum) * t.wt
 have hs : (xs.map fun x => (zgm n t x).wt).sum <= (xs.map Tm.wt).sum + (xs.map Tm.nodes).sum * t.wt := by
  revert ih
  induction xs with
  | nil => simp
  | cons x xs ih2 =>
   intro ih
   have h1 := ih x (by simp)
   have h2 := ih2 fun y hy => ih y (by simp [hy])
   simp only [List.map_cons, List.sum_cons, Nat.add_mul]
   omega
 have h0 := Tm.wt_eq (.mk m xs)
 have h0 : (Tm.mk m xs).wt = m.length + xs.length + (xs.map Tm.wt).sum := h0
 rw [Nat.add_mul, Nat.one_mul]
 split
 ·split
  ·omega
  ·have h1 := Tm.wt_eq (.mk m [])
   have h1 : (Tm.mk m []).wt = m.length + 0 + 0 := h1
   omega
 ·have h1 := Tm.wt_eq (.mk m (xs.map (zgm n t)))
  have h1 : (Tm.mk m (xs.map (zgm n t))).wt = m.length + (xs.map (zgm n t)).length + ((xs.map (zgm n t)).map Tm.wt).sum := h1
  rw [List.length_map, List.map_map] at h1
  have h2 : (xs.map (Tm.wt ∘ zgm n t)).sum = (xs.map fun x => (zgm n t x).wt).sum := rfl
  omega
theorem zy2 (l : List (Str × Tm)) (W : Nat) (hW : ∀ p ∈ l, p.2.wt <= W) : ∀ a : Tm, (zgw l a).wt <= a.wt + a.nodes * W := zby fun m xs ih => by
 rw [zxa, Tm.nodes_eq]
 show (if zbi m = true then (match l.find? fun (p : Str × Tm) => p.1 == m with | some p => p.2 | none => .mk m []) else .mk m (xs.map (zgw l))).wt <= (Tm.mk m xs).wt + (1 + (xs.map Tm.nodes).sum) * W
 have hs : (xs.map fun x => (zgw l x).wt).sum <= (xs.map Tm.wt).sum + (xs.map Tm.nodes).sum * W := by
  revert ih
  induction xs with
  | nil => simp
  | cons x xs ih2 =>
   intro ih
   have h1 := ih x (by simp)
   have h2 := ih2 fun y hy => ih y (by simp [hy])
   simp only [List.map_cons, List.sum_cons, Nat.add_mul]
   omega
 have h0 := Tm.wt_eq (.mk m xs)
 have h0 : (Tm.mk m xs).wt = m.length + xs.length + (xs.map Tm.wt).sum := h0
 rw [Nat.add_mul, Nat.one_mul]
 split
 ·split
  ·rename_i p hp
   have := hW p (List.mem_of_find?_eq_some hp)
   omega
  ·have h1 := Tm.wt_eq (.mk m [])
   have h1 : (Tm.mk m []).wt = m.length + 0 + 0 := h1
   omega
 ·have h1 := Tm.wt_eq (.mk m (xs.map (zgw l)))
  have h1 : (Tm.mk m (xs.map (zgw l))).wt = m.length + (xs.map (zgw l)).length + ((xs.map (zgw l)).map Tm.wt).sum := h1
  rw [List.length_map, List.map_map] at h1
  have h2 : (xs.map (Tm.wt ∘ zgw l)).sum = (xs.map fun x => (zgw l x).wt).sum := rfl
  omega
theorem qbn (n : Str) (t : Tm) : ∀ p ∈ bnd n t, p.2.wt <= t.wt := by
 unfold bnd
 split
 ·simp
 ·intro p hp; simp at hp; rw [hp]; exact Nat.le_refl _
theorem qig (n : Str) (t : Tm) (ht : t.wt <= 1048576) : ∀ f : Fm, f.forms = true -> f.wt <= 1048576 -> f.wt + (1 + f.wt) * t.wt <= 1099511627776 -> FC Tryz.prog 113 [fmD f, sD n, tmD t] [fmD (zc1 n t f).1, bD (zc1 n t f).2] :=
 zce fun o a v ps ih hf hw hb => by
  refine qez n t ht (.mk o a v ps) hf hw ?_ fun x hx => ih x hx (by rw [Fm.forms_eq, Bool.and_eq_true] at hf; exact List.all_eq_true.1 hf.2 x hx) (Nat.le_trans (zcp (a := .mk o a v ps) hx) hw) ?_
  ·have h1 := zy2 (bnd n t) t.wt (qbn n t) a
   have h2 := ze1 a
   have h3 : a.wt <= (Fm.mk o a v ps).wt := zic (.mk o a v ps)
   have h4 : a.nodes * t.wt <= (1 + (Fm.mk o a v ps).wt) * t.wt := Nat.mul_le_mul_right _ (by omega)
   show (zgw (bnd n t) a).wt <= _
   omega
  ·have h3 := zcp (a := .mk o a v ps) hx
   have h4 : (1 + x.wt) * t.wt <= (1 + (Fm.mk o a v ps).wt) * t.wt := Nat.mul_le_mul_right _ (by omega)
   omega
theorem qkp : (mkF 0 []).wt = 0 := rfl
theorem qa1 {α : Type} {g w : α -> Nat} {W : Nat} : ∀ ps : List α, (∀ x ∈ ps, g x <= w x + (1 + w x) * W) -> (ps.map g).sum <= (ps.map w).sum + (ps.length + (ps.map w).sum) * W
 | [], _ => by simp
 | x :: xs, ih => by
  have h1 := ih x (by simp)
  have h2 := qa1 (g := g) (w := w) (W := W) xs fun y hy => ih y (by simp [hy])
  simp only [List.map_cons, List.sum_cons, List.length_cons]
  have e : (xs.length + 1 + (w x + (xs.map w).sum)) * W = (1 + w x) * W + (xs.length + (xs.map w).sum) * W := by rw [<- Nat.add_mul]; congr 1; omega
  rw [e]
  omega
theorem qkc (n : Str) (t : Tm) : ∀ f : Fm, (zgv n t f).1.wt <= f.wt + (1 + f.wt) * t.wt := zce fun o a v ps ih => by
 rw [zx6]
 have h0 : (Fm.mk o a v ps).wt = a.wt + v.length + ps.length + (ps.map Fm.wt).sum := Fm.wt_eq (.mk o a v ps)
 split
 ·exact Nat.le_add_right _ _
 ·split
  ·rw [qkp]; exact Nat.zero_le _
  ·have hs : (ps.map fun x => (zgv n t x).1.wt).sum <= (ps.map Fm.wt).sum + (ps.length + (ps.map Fm.wt).sum) * t.wt := qa1 (g := fun x => (zgv n t x).1.wt) (w := Fm.wt) (W := t.wt) ps ih
   have ha := qim n t a
   have hn := ze1 a
   show (Fm.mk o (if (o == 3) = true then zgm n t a else a) v (ps.map fun x => (zgv n t x).1)).wt <= _
   have h1 := Fm.wt_eq (.mk o (if (o == 3) = true then zgm n t a else a) v (ps.map fun x => (zgv n t x).1))
   have h1 : (Fm.mk o (if (o == 3) = true then zgm n t a else a) v (ps.map fun x => (zgv n t x).1)).wt = (if (o == 3) = true then zgm n t a else a).wt + v.length + (ps.map fun x => (zgv n t x).1).length + ((ps.map fun x => (zgv n t x).1).map Fm.wt).sum := h1
   rw [List.length_map, List.map_map] at h1
   have h2 : (ps.map (Fm.wt ∘ fun x => (zgv n t x).1)).sum = (ps.map fun x => (zgv n t x).1.wt).sum := rfl
   have h3 : (if (o == 3) = true then zgm n t a else a).wt <= a.wt + (1 + a.wt) * t.wt := by
    have : a.nodes * t.wt <= (1 + a.wt) * t.wt := Nat.mul_le_mul_right _ (by omega)
    split <;> omega
   have h4 : (1 + a.wt) * t.wt + (ps.length + (ps.map Fm.wt).sum) * t.wt <= (1 + (Fm.mk o a v ps).wt) * t.wt := by rw [<- Nat.add_mul]; exact Nat.mul_le_mul_right _ (by omega)
   omega
end Go.Proofs.YtemnhgmgeijkcaaGreat
namespace Go.Proofs.YtemnhgmgeijkcaaGreat
set_option linter.unusedSimpArgs false
set_option linter.unusedVariables false
set_option linter.unusedSectionVars false
set_option maxRecDepth 4000
open Go.RowKit
attribute [local go_sem] Oper.semAt_some
end Go.Proofs.YtemnhgmgeijkcaaGreat
namespace Go.Proofs.YtemnhgmgeijkcaaGreat
set_option linter.unusedSimpArgs false
set_option linter.unusedVariables false
set_option linter.unusedSectionVars false
set_option maxRecDepth 4000
open Go.RowKit
theorem zgd (xs : List Fm) (hs : zb7 xs <= 1048576) : FC Tryz.prog 211 [.one (fmS xs)] [.one (fmS xs)] := by
 have hW : zb7 xs = xs.length + (xs.map Fm.wt).sum := rfl
 refine zah Tryz.call211 Tryz.func211 rfl (by kernel_rfl) (zat (by kernel_rfl)) ?_
 simp -implicitDefEqProofs only [go_sem, Tryz.results211]
 refine zaj (by simp -implicitDefEqProofs only [go_sem]) ?_
 simp -implicitDefEqProofs only [go_sem]
 refine zaf (fun k : Nat => hd [(3, .one (.ow 192 k)), (7, vT (fmS xs)), (8, vI xs.length), (9, vI k)] [] [(192, ⟨true, 5, (xs.take k).map fmC, k, true⟩)]) (fun k => k <= xs.length) (fun k => xs.length - k) 0 (zac ?_) ?_ ?_
 ·simp -implicitDefEqProofs only [go_sem]
 ·simp
 ·intro k hk
  by_cases hlt : k < xs.length
  ·have hmin : min k xs.length <= 4294967295 := by omega
   have hx : xs[k].wt <= 1048576 := by have := zb2 Fm.wt xs xs[k] (List.getElem_mem hlt); omega
   simp -implicitDefEqProofs only [go_sem, zad, hlt, zaa xs[k]]
   refine callF (zhj xs[k] hx) (by simp -implicitDefEqProofs only [go_sem, zaa]) ?_
   simp -implicitDefEqProofs only [go_sem, zaa]
   refine zaj (by simp -implicitDefEqProofs only [go_sem]) ?_
   simp -implicitDefEqProofs only [go_sem]
   refine apD true (by simp -implicitDefEqProofs only [go_sem, ne_eq, List.length_map, List.length_take, hmin]) ?_
   simp -implicitDefEqProofs only [go_sem, ne_eq, List.length_map, List.length_take, hmin]
   refine ⟨k + 1, hlt, by omega, zac ?_⟩
   simp -implicitDefEqProofs only [go_sem]
   rw [zav (by omega), List.take_succ_eq_append_getElem hlt, List.map_append, List.map_singleton, zaa xs[k]]
   exact ⟨rfl, rfl⟩
  ·have ht : xs.take k = xs := List.take_of_length_le (by omega)
   simp -implicitDefEqProofs only [go_sem, hlt, ht]
end Go.Proofs.YtemnhgmgeijkcaaGreat
namespace Go.Proofs.YtemnhgmgeijkcaaGreat
set_option linter.unusedSimpArgs false
set_option linter.unusedVariables false
set_option linter.unusedSectionVars false
set_option maxRecDepth 4000
open Go.RowKit
def mtd : Nat -> Nat -> Str -> Str
 | 0, _, acc => acc
 | fuel + 1, n, acc => if n = 0 then acc else mtd fuel (n / 10) (UInt8.ofNat (48 + n % 10) :: acc)
def mtx (k : Nat) : Str := 109 :: mtd (k + 1) k []
theorem zm7 (fuel n : Nat) (acc : Str) (h : 0 < n) : mtd (fuel + 1) n acc = mtd fuel (n / 10) (UInt8.ofNat (48 + n % 10) :: acc) := by rw [mtd, if_neg (by omega)]
theorem ztc : ∀ (f f' n : Nat) (acc : Str), n < f -> n < f' -> mtd f n acc = mtd f' n acc
 | 0, _, n, _, h, _ => absurd h (by omega)
 | _ + 1, 0, n, _, _, h => absurd h (by omega)
 | f + 1, f' + 1, n, acc, h, h' => by
  by_cases h0 : n = 0
  ·simp [mtd, h0]
  ·rw [zm7 _ _ _ (by omega), zm7 _ _ _ (by omega)]
   exact ztc f f' _ _ (by omega) (by omega)
theorem qj1 {n : Nat} (h : n < 256) : IntKind.u8.wrap (n : Int) = n := by
 have e : IntKind.u8.wrap (n : Int) = (n : Int) % 256 := rfl
 rw [e]; omega
theorem zdy (k : Nat) (hk0 : 0 < k) (hk : k <= 4611686018427387904) : FC Tryz.prog 131 [iD k] [sD (mtx k)] := by
 have h0 : ((k : Int) <= 0) = False := by simp; omega
 refine zah Tryz.call131 Tryz.func131 rfl (by kernel_rfl) (zat (by kernel_rfl)) ?_
 simp -implicitDefEqProofs only [go_sem, Tryz.results131, h0]
 refine zaf (fun (x : Nat × Str) => hd [(0, vI x.1), (3, vT (.str x.2))] [] []) (fun x => mtx k = 109 :: mtd (x.1 + 1) x.1 x.2 /\ x.1 * 10 ^ x.2.length <= k /\ x.2.length <= 19) (fun x => x.1) (k, []) (zac ?_) ?_ ?_
 ·simp -implicitDefEqProofs only [go_sem]
 ·exact ⟨rfl, by simp, by simp⟩
 ·intro ⟨n, s⟩ ⟨h1, h2, hl⟩
  have hl : s.length <= 19 := hl
  have hn : n <= k := Nat.le_trans (Nat.le_mul_of_pos_right _ (Nat.pow_pos (by omega))) h2
  have hs : s.length <= 18 \/ n = 0 := by
   by_cases h : n = 0
   ·exact Or.inr h
   ·left
    refine Nat.le_of_not_lt fun hl => ?_
    have : 10 ^ 19 <= 10 ^ s.length := Nat.pow_le_pow_right (by omega) (by omega)
    have : 1 * 10 ^ s.length <= n * 10 ^ s.length := Nat.mul_le_mul_right _ (by omega)
    have h2 : n * 10 ^ s.length <= k := h2
    omega
  by_cases hp : 0 < n
  ·have hp' : ((n : Int) > 0) = True := by simp; omega
   have e1 : (n : Int).tmod 10 = ((n % 10 : Nat) : Int) := by rw [Int.tmod_eq_emod_of_nonneg (by omega)]; omega
   have e2 : (n : Int).tdiv 10 = ((n / 10 : Nat) : Int) := by rw [Int.tdiv_eq_ediv_of_nonneg (by omega)]; omega
   have e3 : IntKind.i64.wrap (48 + ((n % 10 : Nat) : Int)) = ((48 + n % 10 : Nat) : Int) := by rw [zbl (by omega) (by omega)]; omega
   have e4 : IntKind.u8.wrap ((48 + n % 10 : Nat) : Int) = ((48 + n % 10 : Nat) : Int) := qj1 (by omega)
   have e5 : IntKind.i64.wrap ((n / 10 : Nat) : Int) = ((n / 10 : Nat) : Int) := zbl (by omega) (by omega)
   simp -implicitDefEqProofs only [go_sem, hp', e1, e2, e3, e4, e5]
   refine ⟨by omega, ?_⟩
   refine zaj (by simp -implicitDefEqProofs only [go_sem]) ?_
   simp -implicitDefEqProofs only [go_sem]
   have hs' : s.length <= 18 := by omega
   refine ⟨by omega, by omega, (n / 10, UInt8.ofNat (48 + n % 10) :: s), ⟨?_, ?_, show s.length + 1 <= 19 by omega⟩, by omega, zac (by simp -implicitDefEqProofs only [go_sem, e2, e5])⟩
   ·rw [h1]
    show (109 :: mtd (n + 1) n s : Str) = 109 :: mtd (n / 10 + 1) (n / 10) (UInt8.ofNat (48 + n % 10) :: s)
    rw [zm7 _ _ _ hp, ztc n (n / 10 + 1) _ _ (by omega) (by omega)]
   ·show n / 10 * 10 ^ (s.length + 1) <= k
    rw [Nat.pow_succ, Nat.mul_comm _ 10, <- Nat.mul_assoc]
    exact Nat.le_trans (Nat.mul_le_mul_right _ (by omega)) h2
  ·have h0' : n = 0 := by omega
   subst h0'
   simp -implicitDefEqProofs only [go_sem]
   refine ⟨by omega, ?_⟩
   rw [h1]; simp [mtd]
end Go.Proofs.YtemnhgmgeijkcaaGreat
namespace Go.Proofs.YtemnhgmgeijkcaaGreat
set_option linter.unusedSimpArgs false
set_option linter.unusedVariables false
set_option linter.unusedSectionVars false
set_option maxRecDepth 4000
open Go.RowKit
mutual
def zgj : Tm -> Nat -> Tm × Nat
 | .mk n0 s0, k => (.mk (mtx k) (za6 s0 (k + 1)).1, (za6 s0 (k + 1)).2)
def za6 : List Tm -> Nat -> List Tm × Nat
 | [], k => ([], k)
 | a :: xs, k => ((zgj a k).1 :: (za6 xs (zgj a k).2).1, (za6 xs (zgj a k).2).2)
end
mutual
def zhg : Tm -> Nat
 | .mk n0 s0 => 1 + 1 + zdj s0
def zdj : List Tm -> Nat
 | [] => 0
 | a :: xs => zhg a + zdj xs
end
mutual
theorem zx8 : ∀ (a : Tm) (k : Nat), k <= (zgj a k).2 /\ (zgj a k).2 <= k + zhg a
 | .mk n0 s0, k => by have h_s0 := ze2 s0 (k + 1); simp only [zgj, zhg]; omega
theorem ze2 : ∀ (xs : List Tm) (k : Nat), k <= (za6 xs k).2 /\ (za6 xs k).2 <= k + zdj xs
 | [], k => ⟨Nat.le_refl _, Nat.le_refl _⟩
 | a :: xs, k => by have h1 := zx8 a k; have h2 := ze2 xs (zgj a k).2; simp only [za6, zdj]; omega
end
theorem zkd : ∀ xs : List Tm, xs.length <= zdj xs
  | [] => Nat.le_refl _
  | a :: xs => by have := zkd xs; have : 1 <= zhg a := by obtain ⟨n0, s0⟩ := a; simp only [zhg]; omega
                  simp only [List.length_cons, zdj]; omega
theorem zim (xs : List Tm) (H : ∀ a ∈ xs, ∀ k : Nat, 0 < k -> k + zdj a.args <= 4611686018427387904 -> IC Tryz.prog 77 [] (.one (tmS a.args)) [iD k] (.one (tmS (za6 a.args k).1)) [iD (za6 a.args k).2]) :
  ∀ k : Nat, 0 < k -> k + zdj xs <= 4611686018427387904 -> IC Tryz.prog 77 [] (.one (tmS xs)) [iD k] (.one (tmS (za6 xs k).1)) [iD (za6 xs k).2] := by
 intro k h0 hk
 refine qg8 Tryz.call77 Tryz.func77 rfl (by kernel_rfl) (by simp only [zfc, rd, List.map_cons, List.map_nil, List.nil_append, List.length_cons, List.length_nil, Tryz.ntmps77]; omega) (by simp only [Tryz.ntmps77]; omega) (fun vs => ?_)
 simp -implicitDefEqProofs only [go_sem, Tryz.results77, qkm, zrm, zfc, PI]
 refine zaf (fun (x : List Tm × List Tm × Nat) => hd [(0, .one (.ow 0 0)), (1000000, .one (.ow 0 0)), (1, vI x.2.2), (5, vI x.1.length)] [] [(0, ⟨true, 2, x.1.map tmC ++ zgs vs x.1.length (x.2.1.map tmC), 0, true⟩)])
  (fun x => (za6 xs k).1 = x.1 ++ (za6 x.2.1 x.2.2).1 /\ (za6 xs k).2 = (za6 x.2.1 x.2.2).2 /\ 0 < x.2.2 /\ x.2.2 + zdj x.2.1 <= 4611686018427387904 /\ x.1.length + x.2.1.length = xs.length /\ ∀ a ∈ x.2.1, a ∈ xs) (fun x => x.2.1.length) ([], xs, k) (zac ?_) ?_ ?_
 ·simp -implicitDefEqProofs only [go_sem]
 ·exact ⟨rfl, rfl, h0, hk, by simp, fun _ h => h⟩
 ·intro ⟨dn, rest, kk⟩ ⟨h1, h2, h3, h4, h6, h5⟩
  simp only at h1 h2 h3 h4 h5 h6
  cases rest with
  | nil =>
   simp only [za6, List.append_nil] at h1 h2
   simp -implicitDefEqProofs only [go_sem, h1, h2]
  | cons a rest =>
   obtain ⟨n0, s0⟩ := a
   simp only [za6, zgj, zdj, zhg] at h1 h2 h4
   have hc_s0 := ze2 s0 (kk + 1)
   have w0 : IntKind.i64.wrap (((kk : Nat) : Int) + 1) = ((kk + 1 : Nat) : Int) := zav (by omega)
   have hln := zkd xs
   rw [List.length_cons] at h6
   have wl : IntKind.i64.wrap ((dn.length : Int) + 1) = ((dn.length + 1 : Nat) : Int) := zav (by omega)
   simp -implicitDefEqProofs only [go_sem, zab (.mk _ _), Tm.name, Tm.args]
   refine callF (zdy kk (by omega) (by omega)) (by simp -implicitDefEqProofs only [go_sem, w0]) ?_
   simp -implicitDefEqProofs only [go_sem, w0]
   refine zj9 (by simp -implicitDefEqProofs only [go_sem, implies_true, w0]) ?_
   simp -implicitDefEqProofs only [go_sem, implies_true, w0]
   refine callN (l := [(0, .one (.ow 0 0)), (1000000, .one (.ow 0 0)), (5, vI dn.length), (24, .one (.cv (vs dn.length 1))), (25, vI ((kk + 1) : Nat))]) (bl := []) (el := [(0, ⟨true, 2, dn.map tmC ++ [.str (mtx kk), .pin (vs dn.length 1) (tmS s0)] :: zgs vs (dn.length + 1) (rest.map tmC), 0, true⟩)]) 0 dn.length 1 (H (.mk n0 s0) (h5 _ (by simp)) (kk + 1) (by omega) (by show (kk + 1) + zdj s0 <= _; omega)) (by simp -implicitDefEqProofs only [go_sem, w0, tmS]) rfl rfl rfl (by simp -implicitDefEqProofs only [go_sem, tmS, Tm.name, Tm.args]) rfl ?_
   simp -implicitDefEqProofs only [go_sem, w0, Tm.name, Tm.args]
   refine ⟨(dn ++ [.mk (mtx kk) (za6 s0 (kk + 1)).1], rest, (za6 s0 (kk + 1)).2), ⟨by simpa using h1, h2, by show 0 < (za6 s0 (kk + 1)).2; omega, by show (za6 s0 (kk + 1)).2 + zdj rest <= _; omega, by simp; omega, fun b hb => h5 b (by simp [hb])⟩, by simp, zac ?_⟩
   simp -implicitDefEqProofs only [go_sem, wl, zab (.mk _ _), Tm.name, Tm.args, List.map_append, List.append_assoc]
theorem zqv (xs : List Tm) (k : Nat) (h0 : 0 < k) (hk : k + zdj xs <= 4611686018427387904) : IC Tryz.prog 77 [] (.one (tmS xs)) [iD k] (.one (tmS (za6 xs k).1)) [iD (za6 xs k).2] :=
 zim xs (fun a _ => zby (P := fun a => ∀ k : Nat, 0 < k -> k + zdj a.args <= 4611686018427387904 -> IC Tryz.prog 77 [] (.one (tmS a.args)) [iD k] (.one (tmS (za6 a.args k).1)) [iD (za6 a.args k).2]) (fun n ys ih => zim ys ih) a) k h0 hk
theorem zin (xs : List Tm) (H : ∀ a ∈ xs, ∀ k : Nat, 0 < k -> k + zdj a.args <= 4611686018427387904 -> FC Tryz.prog 108 [.one (tmS (za6 a.args k).1), iD k] [iD (za6 a.args k).2]) :
  ∀ k : Nat, 0 < k -> k + zdj xs <= 4611686018427387904 -> FC Tryz.prog 108 [.one (tmS (za6 xs k).1), iD k] [iD (za6 xs k).2] := by
 intro k h0 hk
 refine zah Tryz.call108 Tryz.func108 rfl (by kernel_rfl) (zat (by kernel_rfl)) ?_
 simp -implicitDefEqProofs only [go_sem, Tryz.results108]
 refine zaf (fun (x : List Tm × List Tm × Nat) => hd [(0, vT (.sl 2 (x.1.map tmC ++ (za6 x.2.1 x.2.2).1.map tmC))), (1, vI x.2.2), (5, vI x.1.length)] [] [])
  (fun x => (za6 xs k).1 = x.1 ++ (za6 x.2.1 x.2.2).1 /\ (za6 xs k).2 = (za6 x.2.1 x.2.2).2 /\ 0 < x.2.2 /\ x.2.2 + zdj x.2.1 <= 4611686018427387904 /\ x.1.length + x.2.1.length = xs.length /\ ∀ a ∈ x.2.1, a ∈ xs) (fun x => x.2.1.length) ([], xs, k) (zac ?_) ?_ ?_
 ·simp -implicitDefEqProofs only [go_sem]
 ·exact ⟨rfl, rfl, h0, hk, by simp, fun _ h => h⟩
 ·intro ⟨dn, rest, kk⟩ ⟨h1, h2, h3, h4, h6, h5⟩
  simp only at h1 h2 h3 h4 h5 h6
  cases rest with
  | nil =>
   simp only [za6, List.append_nil] at h1 h2
   simp -implicitDefEqProofs only [go_sem, h2, za6]
  | cons a rest =>
   obtain ⟨n0, s0⟩ := a
   simp only [za6, zgj, zdj, zhg] at h1 h2 h4
   have hc_s0 := ze2 s0 (kk + 1)
   have w0 : IntKind.i64.wrap (((kk : Nat) : Int) + 1) = ((kk + 1 : Nat) : Int) := zav (by omega)
   have hln := zkd xs
   rw [List.length_cons] at h6
   have wl : IntKind.i64.wrap ((dn.length : Int) + 1) = ((dn.length + 1 : Nat) : Int) := zav (by omega)
   simp -implicitDefEqProofs only [go_sem, za6, zgj, zab (.mk _ _), Tm.name, Tm.args]
   refine drawn (by kernel_rfl) ?_
   simp -implicitDefEqProofs only [go_sem]
   refine zan (zdy kk (by omega) (by omega)) (by simp -implicitDefEqProofs only [go_sem, beq_self_eq_true, bne_self_eq_false, w0]) ?_
   simp -implicitDefEqProofs only [go_sem, beq_self_eq_true, bne_self_eq_false, w0]
   refine ⟨by kernel_rfl, ?_⟩
   refine callF (H (.mk n0 s0) (h5 _ (by simp)) (kk + 1) (by omega) (by show (kk + 1) + zdj s0 <= _; omega)) (by simp -implicitDefEqProofs only [go_sem, w0, Tm.name, Tm.args]) ?_
   simp -implicitDefEqProofs only [go_sem, w0, Tm.name, Tm.args]
   refine ⟨(dn ++ [.mk (mtx kk) (za6 s0 (kk + 1)).1], rest, (za6 s0 (kk + 1)).2), ⟨by simpa using h1, h2, by show 0 < (za6 s0 (kk + 1)).2; omega, by show (za6 s0 (kk + 1)).2 + zdj rest <= _; omega, by simp; omega, fun b hb => h5 b (by simp [hb])⟩, by simp, zac ?_⟩
   simp -implicitDefEqProofs only [go_sem, wl, zab (.mk _ _), Tm.name, Tm.args, List.map_append, List.append_assoc]
theorem zrr (xs : List Tm) (k : Nat) (h0 : 0 < k) (hk : k + zdj xs <= 4611686018427387904) : FC Tryz.prog 108 [.one (tmS (za6 xs k).1), iD k] [iD (za6 xs k).2] :=
 zin xs (fun a _ => zby (P := fun a => ∀ k : Nat, 0 < k -> k + zdj a.args <= 4611686018427387904 -> FC Tryz.prog 108 [.one (tmS (za6 a.args k).1), iD k] [iD (za6 a.args k).2]) (fun n ys ih => zin ys ih) a) k h0 hk
mutual
def zgc : Fm -> Nat -> Fm × Nat
 | .mk o0 (.mk n0 s0) v0 p0, k => (.mk ((k : Nat) : Int) (.mk (mtx (k + 1)) (za6 s0 ((k + 1) + 1)).1) (mtx (za6 s0 ((k + 1) + 1)).2) (zbk p0 ((za6 s0 ((k + 1) + 1)).2 + 1)).1, (zbk p0 ((za6 s0 ((k + 1) + 1)).2 + 1)).2)
def zbk : List Fm -> Nat -> List Fm × Nat
 | [], k => ([], k)
 | a :: xs, k => ((zgc a k).1 :: (zbk xs (zgc a k).2).1, (zbk xs (zgc a k).2).2)
end
mutual
def zhv : Fm -> Nat
 | .mk o0 (.mk n0 s0) v0 p0 => 1 + 1 + 1 + zdj s0 + 1 + zdb p0
def zdb : List Fm -> Nat
 | [] => 0
 | a :: xs => zhv a + zdb xs
end
mutual
theorem zxt : ∀ (a : Fm) (k : Nat), k <= (zgc a k).2 /\ (zgc a k).2 <= k + zhv a
 | .mk o0 (.mk n0 s0) v0 p0, k => by have h_s0 := ze2 s0 ((k + 1) + 1); have h_p0 := zde p0 ((za6 s0 ((k + 1) + 1)).2 + 1); simp only [zgc, zhv]; omega
theorem zde : ∀ (xs : List Fm) (k : Nat), k <= (zbk xs k).2 /\ (zbk xs k).2 <= k + zdb xs
 | [], k => ⟨Nat.le_refl _, Nat.le_refl _⟩
 | a :: xs, k => by have h1 := zxt a k; have h2 := zde xs (zgc a k).2; simp only [zbk, zdb]; omega
end
theorem zjw : ∀ xs : List Fm, xs.length <= zdb xs
  | [] => Nat.le_refl _
  | a :: xs => by have := zjw xs; have : 1 <= zhv a := by obtain ⟨o0, ⟨n0, s0⟩, v0, p0⟩ := a; simp only [zhv]; omega
                  simp only [List.length_cons, zdb]; omega
theorem zfh (xs : List Fm) (H : ∀ a ∈ xs, ∀ k : Nat, 0 < k -> k + zdb a.parts <= 4611686018427387904 -> IC Tryz.prog 76 [] (.one (fmS a.parts)) [iD k] (.one (fmS (zbk a.parts k).1)) [iD (zbk a.parts k).2]) :
  ∀ k : Nat, 0 < k -> k + zdb xs <= 4611686018427387904 -> IC Tryz.prog 76 [] (.one (fmS xs)) [iD k] (.one (fmS (zbk xs k).1)) [iD (zbk xs k).2] := by
 intro k h0 hk
 refine qg8 Tryz.call76 Tryz.func76 rfl (by kernel_rfl) (by simp only [zfc, rd, List.map_cons, List.map_nil, List.nil_append, List.length_cons, List.length_nil, Tryz.ntmps76]; omega) (by simp only [Tryz.ntmps76]; omega) (fun vs => ?_)
 simp -implicitDefEqProofs only [go_sem, Tryz.results76, qkm, zrm, zfc, PI]
 refine zaf (fun (x : List Fm × List Fm × Nat) => hd [(0, .one (.ow 0 0)), (1000000, .one (.ow 0 0)), (1, vI x.2.2), (5, vI x.1.length)] [] [(0, ⟨true, 5, x.1.map fmC ++ zgs vs x.1.length (x.2.1.map fmC), 0, true⟩)])
  (fun x => (zbk xs k).1 = x.1 ++ (zbk x.2.1 x.2.2).1 /\ (zbk xs k).2 = (zbk x.2.1 x.2.2).2 /\ 0 < x.2.2 /\ x.2.2 + zdb x.2.1 <= 4611686018427387904 /\ x.1.length + x.2.1.length = xs.length /\ ∀ a ∈ x.2.1, a ∈ xs) (fun x => x.2.1.length) ([], xs, k) (zac ?_) ?_ ?_
 ·simp -implicitDefEqProofs only [go_sem]
 ·exact ⟨rfl, rfl, h0, hk, by simp, fun _ h => h⟩
 ·intro ⟨dn, rest, kk⟩ ⟨h1, h2, h3, h4, h6, h5⟩
  simp only at h1 h2 h3 h4 h5 h6
  cases rest with
  | nil =>
   simp only [zbk, List.append_nil] at h1 h2
   simp -implicitDefEqProofs only [go_sem, h1, h2]
  | cons a rest =>
   obtain ⟨o0, ⟨n0, s0⟩, v0, p0⟩ := a
   simp only [zbk, zgc, zdb, zhv] at h1 h2 h4
   have hc_s0 := ze2 s0 ((kk + 1) + 1)
   have hc_p0 := zde p0 ((za6 s0 ((kk + 1) + 1)).2 + 1)
   have w0 : IntKind.i64.wrap (((kk : Nat) : Int) + 1) = ((kk + 1 : Nat) : Int) := zav (by omega)
   have w1 : IntKind.i64.wrap ((((kk + 1) : Nat) : Int) + 1) = (((kk + 1) + 1 : Nat) : Int) := zav (by omega)
   have w2 : IntKind.i64.wrap ((((za6 s0 ((kk + 1) + 1)).2 : Nat) : Int) + 1) = (((za6 s0 ((kk + 1) + 1)).2 + 1 : Nat) : Int) := zav (by omega)
   have hln := zjw xs
   rw [List.length_cons] at h6
   have wl : IntKind.i64.wrap ((dn.length : Int) + 1) = ((dn.length + 1 : Nat) : Int) := zav (by omega)
   simp -implicitDefEqProofs only [go_sem, zaa (.mk _ _ _ _), Fm.op, Fm.atom, Fm.var, Fm.parts, Tm.name, Tm.args]
   refine zj9 (by simp -implicitDefEqProofs only [go_sem, implies_true, w0, w1, w2]) ?_
   simp -implicitDefEqProofs only [go_sem, implies_true, w0, w1, w2]
   refine callF (zdy (kk + 1) (by omega) (by omega)) (by simp -implicitDefEqProofs only [go_sem, w0, w1, w2]) ?_
   simp -implicitDefEqProofs only [go_sem, w0, w1, w2]
   refine zj9 (by simp -implicitDefEqProofs only [go_sem, implies_true, w0, w1, w2]) ?_
   simp -implicitDefEqProofs only [go_sem, implies_true, w0, w1, w2]
   refine callN (l := [(0, .one (.ow 0 0)), (1000000, .one (.ow 0 0)), (5, vI dn.length), (33, .one (.cv (vs dn.length 2))), (34, vI (((kk + 1) + 1) : Nat))]) (bl := []) (el := [(0, ⟨true, 5, dn.map fmC ++ [.int .i64 ((kk : Nat) : Int), .str (mtx (kk + 1)), .pin (vs dn.length 2) (tmS s0), .str v0, .pin (vs dn.length 4) (fmS p0)] :: zgs vs (dn.length + 1) (rest.map fmC), 0, true⟩)]) 0 dn.length 2 (zqv s0 ((kk + 1) + 1) (by omega) (by omega)) (by simp -implicitDefEqProofs only [go_sem, w0, w1, w2, tmS]) rfl rfl rfl (by simp -implicitDefEqProofs only [go_sem, tmS, Fm.op, Fm.atom, Fm.var, Fm.parts, Tm.name, Tm.args]) rfl ?_
   simp -implicitDefEqProofs only [go_sem, w0, w1, w2, Fm.op, Fm.atom, Fm.var, Fm.parts, Tm.name, Tm.args]
   refine callF (zdy (za6 s0 ((kk + 1) + 1)).2 (by omega) (by omega)) (by simp -implicitDefEqProofs only [go_sem, w0, w1, w2]) ?_
   simp -implicitDefEqProofs only [go_sem, w0, w1, w2]
   refine zj9 (by simp -implicitDefEqProofs only [go_sem, implies_true, w0, w1, w2]) ?_
   simp -implicitDefEqProofs only [go_sem, implies_true, w0, w1, w2]
   refine callN (l := [(0, .one (.ow 0 0)), (1000000, .one (.ow 0 0)), (5, vI dn.length), (48, .one (.cv (vs dn.length 4))), (49, vI (((za6 s0 ((kk + 1) + 1)).2 + 1) : Nat))]) (bl := []) (el := [(0, ⟨true, 5, dn.map fmC ++ [.int .i64 ((kk : Nat) : Int), .str (mtx (kk + 1)), tmS (za6 s0 ((kk + 1) + 1)).1, .str (mtx (za6 s0 ((kk + 1) + 1)).2), .pin (vs dn.length 4) (fmS p0)] :: zgs vs (dn.length + 1) (rest.map fmC), 0, true⟩)]) 0 dn.length 4 (H (.mk o0 (.mk n0 s0) v0 p0) (h5 _ (by simp)) ((za6 s0 ((kk + 1) + 1)).2 + 1) (by omega) (by show ((za6 s0 ((kk + 1) + 1)).2 + 1) + zdb p0 <= _; omega)) (by simp -implicitDefEqProofs only [go_sem, w0, w1, w2, fmS]) rfl rfl rfl (by simp -implicitDefEqProofs only [go_sem, fmS, Fm.op, Fm.atom, Fm.var, Fm.parts, Tm.name, Tm.args]) rfl ?_
   simp -implicitDefEqProofs only [go_sem, w0, w1, w2, Fm.op, Fm.atom, Fm.var, Fm.parts, Tm.name, Tm.args]
   refine ⟨(dn ++ [.mk ((kk : Nat) : Int) (.mk (mtx (kk + 1)) (za6 s0 ((kk + 1) + 1)).1) (mtx (za6 s0 ((kk + 1) + 1)).2) (zbk p0 ((za6 s0 ((kk + 1) + 1)).2 + 1)).1], rest, (zbk p0 ((za6 s0 ((kk + 1) + 1)).2 + 1)).2), ⟨by simpa using h1, h2, by show 0 < (zbk p0 ((za6 s0 ((kk + 1) + 1)).2 + 1)).2; omega, by show (zbk p0 ((za6 s0 ((kk + 1) + 1)).2 + 1)).2 + zdb rest <= _; omega, by simp; omega, fun b hb => h5 b (by simp [hb])⟩, by simp, zac ?_⟩
   simp -implicitDefEqProofs only [go_sem, wl, zaa (.mk _ _ _ _), Fm.op, Fm.atom, Fm.var, Fm.parts, Tm.name, Tm.args, List.map_append, List.append_assoc]
theorem zge (xs : List Fm) (k : Nat) (h0 : 0 < k) (hk : k + zdb xs <= 4611686018427387904) : IC Tryz.prog 76 [] (.one (fmS xs)) [iD k] (.one (fmS (zbk xs k).1)) [iD (zbk xs k).2] :=
 zfh xs (fun a _ => zce (P := fun a => ∀ k : Nat, 0 < k -> k + zdb a.parts <= 4611686018427387904 -> IC Tryz.prog 76 [] (.one (fmS a.parts)) [iD k] (.one (fmS (zbk a.parts k).1)) [iD (zbk a.parts k).2]) (fun o b v ps ih => zfh ps ih) a) k h0 hk
theorem zft (xs : List Fm) (H : ∀ a ∈ xs, ∀ k : Nat, 0 < k -> k + zdb a.parts <= 4611686018427387904 -> FC Tryz.prog 79 [.one (fmS (zbk a.parts k).1), iD k] [iD (zbk a.parts k).2]) :
  ∀ k : Nat, 0 < k -> k + zdb xs <= 4611686018427387904 -> FC Tryz.prog 79 [.one (fmS (zbk xs k).1), iD k] [iD (zbk xs k).2] := by
 intro k h0 hk
 refine zah Tryz.call79 Tryz.func79 rfl (by kernel_rfl) (zat (by kernel_rfl)) ?_
 simp -implicitDefEqProofs only [go_sem, Tryz.results79]
 refine zaf (fun (x : List Fm × List Fm × Nat) => hd [(0, vT (.sl 5 (x.1.map fmC ++ (zbk x.2.1 x.2.2).1.map fmC))), (1, vI x.2.2), (5, vI x.1.length)] [] [])
  (fun x => (zbk xs k).1 = x.1 ++ (zbk x.2.1 x.2.2).1 /\ (zbk xs k).2 = (zbk x.2.1 x.2.2).2 /\ 0 < x.2.2 /\ x.2.2 + zdb x.2.1 <= 4611686018427387904 /\ x.1.length + x.2.1.length = xs.length /\ ∀ a ∈ x.2.1, a ∈ xs) (fun x => x.2.1.length) ([], xs, k) (zac ?_) ?_ ?_
 ·simp -implicitDefEqProofs only [go_sem]
 ·exact ⟨rfl, rfl, h0, hk, by simp, fun _ h => h⟩
 ·intro ⟨dn, rest, kk⟩ ⟨h1, h2, h3, h4, h6, h5⟩
  simp only at h1 h2 h3 h4 h5 h6
  cases rest with
  | nil =>
   simp only [zbk, List.append_nil] at h1 h2
   simp -implicitDefEqProofs only [go_sem, h2, zbk]
  | cons a rest =>
   obtain ⟨o0, ⟨n0, s0⟩, v0, p0⟩ := a
   simp only [zbk, zgc, zdb, zhv] at h1 h2 h4
   have hc_s0 := ze2 s0 ((kk + 1) + 1)
   have hc_p0 := zde p0 ((za6 s0 ((kk + 1) + 1)).2 + 1)
   have w0 : IntKind.i64.wrap (((kk : Nat) : Int) + 1) = ((kk + 1 : Nat) : Int) := zav (by omega)
   have w1 : IntKind.i64.wrap ((((kk + 1) : Nat) : Int) + 1) = (((kk + 1) + 1 : Nat) : Int) := zav (by omega)
   have w2 : IntKind.i64.wrap ((((za6 s0 ((kk + 1) + 1)).2 : Nat) : Int) + 1) = (((za6 s0 ((kk + 1) + 1)).2 + 1 : Nat) : Int) := zav (by omega)
   have hln := zjw xs
   rw [List.length_cons] at h6
   have wl : IntKind.i64.wrap ((dn.length : Int) + 1) = ((dn.length + 1 : Nat) : Int) := zav (by omega)
   simp -implicitDefEqProofs only [go_sem, zbk, zgc, zaa (.mk _ _ _ _), Fm.op, Fm.atom, Fm.var, Fm.parts, Tm.name, Tm.args]
   simp only [bne_self_eq_false]
   simp -implicitDefEqProofs only [go_sem, w0, w1, w2]
   refine drawn (by kernel_rfl) ?_
   simp -implicitDefEqProofs only [go_sem]
   refine zan (zdy (kk + 1) (by omega) (by omega)) (by simp -implicitDefEqProofs only [go_sem, beq_self_eq_true, bne_self_eq_false, w0, w1, w2]) ?_
   simp -implicitDefEqProofs only [go_sem, beq_self_eq_true, bne_self_eq_false, w0, w1, w2]
   refine ⟨by kernel_rfl, ?_⟩
   refine callF (zrr s0 ((kk + 1) + 1) (by omega) (by omega)) (by simp -implicitDefEqProofs only [go_sem, w0, w1, w2, Fm.op, Fm.atom, Fm.var, Fm.parts, Tm.name, Tm.args]) ?_
   simp -implicitDefEqProofs only [go_sem, w0, w1, w2, Fm.op, Fm.atom, Fm.var, Fm.parts, Tm.name, Tm.args]
   refine drawn (by kernel_rfl) ?_
   simp -implicitDefEqProofs only [go_sem]
   refine zan (zdy (za6 s0 ((kk + 1) + 1)).2 (by omega) (by omega)) (by simp -implicitDefEqProofs only [go_sem, beq_self_eq_true, bne_self_eq_false, w0, w1, w2]) ?_
   simp -implicitDefEqProofs only [go_sem, beq_self_eq_true, bne_self_eq_false, w0, w1, w2]
   refine ⟨by kernel_rfl, ?_⟩
   refine callF (H (.mk o0 (.mk n0 s0) v0 p0) (h5 _ (by simp)) ((za6 s0 ((kk + 1) + 1)).2 + 1) (by omega) (by show ((za6 s0 ((kk + 1) + 1)).2 + 1) + zdb p0 <= _; omega)) (by simp -implicitDefEqProofs only [go_sem, w0, w1, w2, Fm.op, Fm.atom, Fm.var, Fm.parts, Tm.name, Tm.args]) ?_
   simp -implicitDefEqProofs only [go_sem, w0, w1, w2, Fm.op, Fm.atom, Fm.var, Fm.parts, Tm.name, Tm.args]
   refine ⟨(dn ++ [.mk ((kk : Nat) : Int) (.mk (mtx (kk + 1)) (za6 s0 ((kk + 1) + 1)).1) (mtx (za6 s0 ((kk + 1) + 1)).2) (zbk p0 ((za6 s0 ((kk + 1) + 1)).2 + 1)).1], rest, (zbk p0 ((za6 s0 ((kk + 1) + 1)).2 + 1)).2), ⟨by simpa using h1, h2, by show 0 < (zbk p0 ((za6 s0 ((kk + 1) + 1)).2 + 1)).2; omega, by show (zbk p0 ((za6 s0 ((kk + 1) + 1)).2 + 1)).2 + zdb rest <= _; omega, by simp; omega, fun b hb => h5 b (by simp [hb])⟩, by simp, zac ?_⟩
   simp -implicitDefEqProofs only [go_sem, wl, zaa (.mk _ _ _ _), Fm.op, Fm.atom, Fm.var, Fm.parts, Tm.name, Tm.args, List.map_append, List.append_assoc]
theorem zgg (xs : List Fm) (k : Nat) (h0 : 0 < k) (hk : k + zdb xs <= 4611686018427387904) : FC Tryz.prog 79 [.one (fmS (zbk xs k).1), iD k] [iD (zbk xs k).2] :=
 zft xs (fun a _ => zce (P := fun a => ∀ k : Nat, 0 < k -> k + zdb a.parts <= 4611686018427387904 -> FC Tryz.prog 79 [.one (fmS (zbk a.parts k).1), iD k] [iD (zbk a.parts k).2]) (fun o b v ps ih => zft ps ih) a) k h0 hk
def zbc : Sq -> Nat -> Sq × Nat
 | ⟨l0, r0⟩, k => (⟨(zbk l0 k).1, (zbk r0 (zbk l0 k).2).1⟩, (zbk r0 (zbk l0 k).2).2)
def zcz : Sq -> Nat
 | ⟨l0, r0⟩ => zdb l0 + zdb r0
theorem zg5 : ∀ (a : Sq) (k : Nat), k <= (zbc a k).2 /\ (zbc a k).2 <= k + zcz a
 | ⟨l0, r0⟩, k => by have h0 := zde l0 k; have h26 := zde r0 (zbk l0 k).2; simp only [zbc, zcz]; omega
theorem zhm (a : Sq) (k : Nat) (h0 : 0 < k) (hk : k + zcz a <= 4611686018427387904) : IC Tryz.prog 39 [] (.agg (sqC a)) [iD k] (.agg (sqC (zbc a k).1)) [iD (zbc a k).2] := by
 obtain ⟨l0, r0⟩ := a
 simp only [zcz] at hk
 have hc0 := zde l0 k
 have hc1 := zde r0 (zbk l0 k).2
 simp only [zak, zbc]
 refine IC_of Tryz.call39 Tryz.func39 rfl (by kernel_rfl) (by simp only [zfc, rd, List.map_cons, List.map_nil, List.nil_append, List.length_cons, List.length_nil, Tryz.ntmps39]; omega) (by simp only [Tryz.ntmps39]; omega) ⟨⟨by simp, by simp [T.isPin]⟩, zc2 _⟩ trivial ?_
 simp -implicitDefEqProofs only [go_sem, Tryz.results39, zrm, zfc, PI]
 refine qag (l := [(1000000, .agg [.ow 0 0, .ow 1 0]), (2, .one (.bx 2 0)), (6, .one (.ow 0 0)), (7, vI (k : Nat))]) (bl := [(2, [.ow 0 0, .ow 1 0])]) (el := [(0, ⟨true, 5, (l0).map fmC, 0, true⟩), (1, ⟨true, 5, (r0).map fmC, 0, true⟩)]) (zge l0 k (by omega) (by omega)) (by simp -implicitDefEqProofs only [go_sem, zak, fmS]) rfl rfl rfl (by simp -implicitDefEqProofs only [go_sem, zak, fmS]) rfl ?_
 simp -implicitDefEqProofs only [go_sem, zak, fmS]
 refine qag (l := [(1000000, .agg [.ow 0 0, .ow 1 0]), (2, .one (.bx 2 0)), (10, .one (.ow 1 0)), (11, vI ((zbk l0 k).2 : Nat))]) (bl := [(2, [.ow 0 0, .ow 1 0])]) (el := [(0, ⟨true, 5, ((zbk l0 k).1).map fmC, 0, true⟩), (1, ⟨true, 5, (r0).map fmC, 0, true⟩)]) (zge r0 (zbk l0 k).2 (by omega) (by omega)) (by simp -implicitDefEqProofs only [go_sem, zak, fmS]) rfl rfl rfl (by simp -implicitDefEqProofs only [go_sem, zak, fmS]) rfl ?_
 simp -implicitDefEqProofs only [go_sem, zak, fmS]
end Go.Proofs.YtemnhgmgeijkcaaGreat
namespace Go.Proofs.YtemnhgmgeijkcaaGreat
set_option linter.unusedSimpArgs false
set_option linter.unusedVariables false
set_option linter.unusedSectionVars false
set_option maxRecDepth 4000
open Go.RowKit
mutual
theorem qaf : ∀ a : Tm, zhg a <= 2 + 2 * a.wt
 | .mk n s => by
  have := zl2 s
  rw [Tm.wt_eq, zhg]; unfold zvk at this
  simp only [Tm.name, Tm.args]; omega
theorem zl2 : ∀ xs : List Tm, zdj xs <= 2 * zvk xs
 | [] => by simp [zdj]
 | a :: xs => by
  have h1 := qaf a
  have h2 := zl2 xs
  unfold zvk at h2 ⊢
  rw [zdj, List.length_cons, List.map_cons, List.sum_cons]; omega
end
mutual
theorem qbd : ∀ a : Fm, zhv a <= 4 + 4 * a.wt
 | .mk o (.mk n s) v p => by
  have h1 := zl2 s
  have h2 := zjg p
  rw [Fm.wt_eq, zhv]; unfold zb7 at h2; unfold zvk at h1
  simp only [Fm.atom, Fm.var, Fm.parts]
  rw [Tm.wt_eq]
  simp only [Tm.name, Tm.args]; omega
theorem zjg : ∀ xs : List Fm, zdb xs <= 4 * zb7 xs
 | [] => by simp [zdb]
 | a :: xs => by
  have h1 := qbd a
  have h2 := zjg xs
  unfold zb7 at h2 ⊢
  rw [zdb, List.length_cons, List.map_cons, List.sum_cons]; omega
end
end Go.Proofs.YtemnhgmgeijkcaaGreat
namespace Go.Proofs.YtemnhgmgeijkcaaGreat
set_option linter.unusedSimpArgs false
set_option linter.unusedVariables false
set_option linter.unusedSectionVars false
set_option maxRecDepth 4000
open Go.RowKit
theorem zqx (f : Fm) (hs : f.wt <= 1099511627776) : GC Tryz.prog 70 [(true, fmD f)] [fmD (if f.good = true then f else mkF 0 []), bD f.good] := by
 cases h : f.good
 ·rw [if_neg (by simp)]
  simp only [fmD, zaa f, zie, List.map_nil]
  refine qe4 Tryz.call70 Tryz.func70 rfl (by kernel_rfl) (by simp only [List.length_cons, List.length_nil, Tryz.ntmps70]; omega) (by simp [zb5, T.isPin]) ?_
  simp -implicitDefEqProofs only [go_sem, Tryz.results70]
  refine callF (zcf f hs) (by simp -implicitDefEqProofs only [go_sem, zaa f, h]) ?_
  simp -implicitDefEqProofs only [go_sem, zaa f, h]
 ·rw [if_pos rfl]
  simp only [fmD, zaa f]
  refine qe4 Tryz.call70 Tryz.func70 rfl (by kernel_rfl) (by simp only [List.length_cons, List.length_nil, Tryz.ntmps70]; omega) (by simp [zb5, T.isPin]) ?_
  simp -implicitDefEqProofs only [go_sem, Tryz.results70]
  refine callF (zcf f hs) (by simp -implicitDefEqProofs only [go_sem, zaa f, h]) ?_
  simp -implicitDefEqProofs only [go_sem, zaa f, h]
end Go.Proofs.YtemnhgmgeijkcaaGreat
namespace Go.Proofs.YtemnhgmgeijkcaaGreat
set_option linter.unusedSimpArgs false
set_option linter.unusedVariables false
set_option linter.unusedSectionVars false
set_option maxRecDepth 4000
open Go.RowKit
theorem qjp {n m : Str} (hn : zbi n = true) (hm : zc0 m = true) : (n == m) = false := by
 rw [beq_eq_false_iff_ne]
 rintro rfl
 have h1 := (zsb hn).1
 have h2 := (zo6 hm).1
 rw [h1] at h2
 cases h2
theorem zvf {n : Str} (h : zc0 n = true) : zbi n = false := by
 cases hv : zbi n
 ·rfl
 ·have := qjp hv h
  simp at this
theorem zpb (l : List Str) (n : Str) : (zba [] l).contains n = l.contains n := by
 rw [Bool.eq_iff_iff, List.contains_iff_mem, List.contains_iff_mem, zfj]; simp
theorem noneT {a : Tm} (h : a.none = true) : a = .mk [] [] := by
 unfold Tm.none at h
 rw [Bool.and_eq_true, beq_iff_eq, decide_eq_true_eq, List.length_eq_zero_iff] at h
 cases a with
 | mk n xs => simp only [Tm.name, Tm.args] at h; rw [h.1, h.2]
theorem zyo {f : Fm} (h : f.here = true) (h3 : (f.op == 3) = false) : f.atom = .mk [] [] := by
 apply noneT
 unfold Fm.here at h
 rw [h3] at h
 simp only [Bool.false_eq_true, if_false] at h
 split at h
 ·simp only [Bool.and_eq_true] at h; exact h.1.2
 ·split at h
  ·simp only [Bool.and_eq_true] at h; exact h.1.2
  ·split at h
   ·simp only [Bool.and_eq_true] at h; exact h.1.2
   ·split at h
    ·simp only [Bool.and_eq_true] at h; exact h.1.2
    ·cases h
theorem zx4 {f : Fm} (h1 : f.here = true) (h : isQ f.op = true) : zbi f.var = true := by
 unfold Fm.here at h1
 have h2 : (f.op == 1 || f.op == 2) = false /\ (f.op == 3) = false /\ (f.op == 4) = false /\ znn f.op = false := by
  have h8 : f.op = 8 \/ f.op = 9 := by unfold isQ at h; rw [Bool.or_eq_true, beq_iff_eq, beq_iff_eq] at h; exact h
  rcases h8 with e | e <;> rw [e] <;> decide
 rw [h2.1, h2.2.1, h2.2.2.1, h2.2.2.2, h] at h1
 simp only [Bool.false_eq_true, if_false, if_true, Bool.and_eq_true] at h1
 exact h1.2
theorem ze4 {f : Fm} (h : f.good = true) : f.forms = true := (Bool.and_eq_true _ _ ▸ h : _ /\ _).2
noncomputable def sbF (n : Str) (t : Tm) (f : Fm) : Fm × Bool := if (f.good && zbi n && t.good && (zgv n t f).2 && (zgv n t f).1.good) = true then ((zgv n t f).1, true) else (mkF 0 [], false)
theorem zgl (f : Fm) (n : Str) (t : Tm) (hw : f.wt <= 1048576) (ht : t.wt <= 1048576) (hb : f.wt + (1 + f.wt) * t.wt <= 1099511627776) : FC Tryz.prog 164 [fmD f, sD n, tmD t] [fmD (sbF n t f).1, bD (sbF n t f).2] := by
 have hv : sbF n t f = if (f.good && zbi n && t.good && (zgv n t f).2 && (zgv n t f).1.good) = true then ((zgv n t f).1, true) else (mkF 0 [], false) := rfl
 have HF := zcf f (by omega)
 have HN := zdl n
 have HT := zhq t (by omega)
 cases hg : f.good
 ·rw [hg] at hv HF
  simp only [Bool.false_and, Bool.false_eq_true, if_false] at hv
  rw [hv]
  simp only [fmD, zaa f, tmD, zab t, zie, List.map_nil] at HF ⊢
  refine zah Tryz.call164 Tryz.func164 rfl (by kernel_rfl) (zat (by kernel_rfl)) ?_
  simp -implicitDefEqProofs only [go_sem, Tryz.results164]
  refine callF (HF) (by simp -implicitDefEqProofs only [go_sem]) ?_
  simp -implicitDefEqProofs only [go_sem]
 ·cases hn : zbi n
  ·rw [hg, hn] at hv
   rw [hg] at HF
   rw [hn] at HN
   simp only [Bool.false_and, Bool.true_and, Bool.false_eq_true, if_false] at hv
   rw [hv]
   simp only [fmD, zaa f, tmD, zab t, zie, List.map_nil] at HF ⊢
   refine zah Tryz.call164 Tryz.func164 rfl (by kernel_rfl) (zat (by kernel_rfl)) ?_
   simp -implicitDefEqProofs only [go_sem, Tryz.results164]
   refine callF (HF) (by simp -implicitDefEqProofs only [go_sem]) ?_
   simp -implicitDefEqProofs only [go_sem]
   refine callF (HN) (by simp -implicitDefEqProofs only [go_sem]) ?_
   simp -implicitDefEqProofs only [go_sem]
  ·cases htg : t.good
   ·rw [hg, hn, htg] at hv
    rw [hg] at HF
    rw [hn] at HN
    rw [htg] at HT
    simp only [Bool.false_and, Bool.true_and, Bool.false_eq_true, if_false] at hv
    rw [hv]
    simp only [fmD, zaa f, tmD, zab t, zie, List.map_nil] at HF HT ⊢
    refine zah Tryz.call164 Tryz.func164 rfl (by kernel_rfl) (zat (by kernel_rfl)) ?_
    simp -implicitDefEqProofs only [go_sem, Tryz.results164]
    refine callF (HF) (by simp -implicitDefEqProofs only [go_sem]) ?_
    simp -implicitDefEqProofs only [go_sem]
    refine callF (HN) (by simp -implicitDefEqProofs only [go_sem]) ?_
    simp -implicitDefEqProofs only [go_sem]
    refine callF (HT) (by simp -implicitDefEqProofs only [go_sem]) ?_
    simp -implicitDefEqProofs only [go_sem]
   ·rw [hg, hn, htg] at hv
    rw [hg] at HF
    rw [hn] at HN
    rw [htg] at HT
    have HS := zmf n t ht f (ze4 hg) hw
    have hwt := qkc n t f
    generalize (zgv n t f).1 = R at HS hv hwt
    simp only [Bool.true_and] at hv
    cases hok : (zgv n t f).2
    ·rw [hok] at hv HS
     simp only [Bool.false_and, Bool.false_eq_true, if_false] at hv
     rw [hv]
     simp only [fmD, zaa f, tmD, zab t, zaa R, zie, List.map_nil] at HF HT HS ⊢
     refine zah Tryz.call164 Tryz.func164 rfl (by kernel_rfl) (zat (by kernel_rfl)) ?_
     simp -implicitDefEqProofs only [go_sem, Tryz.results164]
     refine callF (HF) (by simp -implicitDefEqProofs only [go_sem]) ?_
     simp -implicitDefEqProofs only [go_sem]
     refine callF (HN) (by simp -implicitDefEqProofs only [go_sem]) ?_
     simp -implicitDefEqProofs only [go_sem]
     refine callF (HT) (by simp -implicitDefEqProofs only [go_sem]) ?_
     simp -implicitDefEqProofs only [go_sem]
     refine callF (HS) (by simp -implicitDefEqProofs only [go_sem]) ?_
     simp -implicitDefEqProofs only [go_sem]
    ·rw [hok] at hv HS
     have HI := zqx R (by omega)
     simp only [Bool.true_and] at hv
     have hv2 : sbF n t f = ((if R.good = true then R else mkF 0 []), R.good) := by rw [hv]; cases R.good <;> rfl
     rw [hv2]
     generalize (if R.good = true then R else mkF 0 []) = Z at HI ⊢
     generalize R.good = G at HI ⊢
     simp only [fmD, zaa f, tmD, zab t, zaa R, zaa Z] at HF HT HS HI ⊢
     refine zah Tryz.call164 Tryz.func164 rfl (by kernel_rfl) (zat (by kernel_rfl)) ?_
     simp -implicitDefEqProofs only [go_sem, Tryz.results164]
     refine callF (HF) (by simp -implicitDefEqProofs only [go_sem]) ?_
     simp -implicitDefEqProofs only [go_sem]
     refine callF (HN) (by simp -implicitDefEqProofs only [go_sem]) ?_
     simp -implicitDefEqProofs only [go_sem]
     refine callF (HT) (by simp -implicitDefEqProofs only [go_sem]) ?_
     simp -implicitDefEqProofs only [go_sem]
     refine callF (HS) (by simp -implicitDefEqProofs only [go_sem]) ?_
     simp -implicitDefEqProofs only [go_sem]
     refine zdi [6] [34] [] (HI) (by simp -implicitDefEqProofs only [go_sem]) (by simp -implicitDefEqProofs only [go_sem]) (by simp -implicitDefEqProofs only [go_sem]) (by simp -implicitDefEqProofs only [go_sem]) ?_
     simp -implicitDefEqProofs only [go_sem]
end Go.Proofs.YtemnhgmgeijkcaaGreat
namespace Go.Proofs.YtemnhgmgeijkcaaGreat
set_option linter.unusedSimpArgs false
set_option linter.unusedVariables false
set_option linter.unusedSectionVars false
set_option maxRecDepth 4000
open Go.RowKit
variable {P : Program}
attribute [go_sem] St.upEB
end Go.Proofs.YtemnhgmgeijkcaaGreat
namespace Go.Proofs.YtemnhgmgeijkcaaGreat
set_option linter.unusedSimpArgs false
set_option linter.unusedVariables false
set_option linter.unusedSectionVars false
set_option maxRecDepth 4000
open Go.RowKit
variable {P : Program}
section
variable {ks : List Fr} {Q : Exit -> St -> Prop} {σ : St} {ops : Array Oper} {os : List Oper} {L : List (List Ky × List Ky)} {d : Nat} {t : TypeId} {ty : TypeId} {ps : String} {af : Array Edge} {len : Nat} {parts : Array (Nat × Operand)}
theorem zja (h : zaw (blS P σ t len parts) fun _ => σ.ev (d * 32) = none)
  (k : exd P ops os (L ++ [(zax (parts.toList.map (·.2)) ++ (rK (qd4 (zku P (σ.get P) t len parts)) ++ [(2, d * 32)]), dK (some d) ++ eK (blK d (blS P σ t len parts)))]) ks Q ((σ.bl d (blS P σ t len parts)).put (some d) (.one (.ow (d * 32) 0)))) :
  exd P ops (⟨some d, .buildSlice t len parts, ty, ps, af, none⟩ :: os) L ks Q σ := by
 obtain ⟨⟨x, cons⟩, h1, h2⟩ := zaq h
 rw [h1] at k
 unfold blS at h1
 obtain ⟨p, e1, h1⟩ := Option.bind_eq_some_iff.1 h1
 obtain ⟨q, e2, h1⟩ := Option.map_eq_some_iff.1 h1
 simp only [Prod.mk.injEq] at h1
 obtain ⟨rfl, rfl⟩ := h1
 rw [e1] at k
 exact qie ⟨e1, e2, h2⟩ k
end
end Go.Proofs.YtemnhgmgeijkcaaGreat
namespace Go.Proofs.YtemnhgmgeijkcaaGreat
set_option linter.unusedSimpArgs false
set_option linter.unusedVariables false
set_option linter.unusedSectionVars false
set_option maxRecDepth 4000
open Go.RowKit
variable {P : Program} {N : Nat}
def zdq (P : Program) (N : Nat) (c : Code) (σ : St) (Q : Exit -> St -> Prop) : Prop := ∀ n0 w0 A0 g a w, Rel n0 N σ g a w -> LtK n0 w -> Bk n0 w0 w -> (g.A0, g.R0) = A0 -> c.wp P (Ends n0 N w0 A0 Q) a w
theorem Ends.mono {n0 : Nat -> Prop} {w0 : World} {A0 : (Nat -> Prop) × RP} {Q Q' : Exit -> St -> Prop} (h : ∀ e σ, Q e σ -> Q' e σ) {e : Exit} {a : Act} {w : World} : Ends n0 N w0 A0 Q e a w -> Ends n0 N w0 A0 Q' e a w
 | ⟨σ, g, h1, h2⟩ => ⟨σ, g, h _ _ h1, h2⟩
theorem zdq.mono {c : Code} {σ : St} {Q Q' : Exit -> St -> Prop} (h : ∀ e σ, Q e σ -> Q' e σ) (k : zdq P N c σ Q) : zdq P N c σ Q' := fun n0 w0 A0 g a w h1 h2 h3 h4 => wp_mono (k n0 w0 A0 g a w h1 h2 h3 h4) fun _ _ _ => Ends.mono h
theorem zdq.ofEx {c : Code} {σ : St} {Q : Exit -> St -> Prop} (hd : zdh N c = true) (h : ex P c [] Q σ) : zdq P N c σ Q := fun _ _ _ g a w h1 h2 h3 h4 => zbq c σ Q hd h g a w h1 h2 h3 h4
def qh3 (P : Program) (N : Nat) (c : Code) (Q : Exit -> St -> Prop) (e : Exit) (σ : St) : Prop := match e with | .normal => zdq P N c σ Q | e => Q e σ
theorem zom (c : Code) (Q : Exit -> St -> Prop) (σ : St) : qh3 P N c Q .normal σ = zdq P N c σ Q := rfl
theorem zdq.seq {x y : Code} {σ : St} {Q : Exit -> St -> Prop} (h : zdq P N x σ (qh3 P N y Q)) : zdq P N (.seq x y) σ Q := fun n0 w0 A0 g a w h1 h2 h3 h4 => by
 refine wp_seq (wp_mono (h n0 w0 A0 g a w h1 h2 h3 h4) fun e a' w' hq => ?_)
 obtain ⟨σ', g', k1, k2, k3, k4, k5⟩ := hq
 cases e with
 | normal => exact k1 n0 w0 A0 g' a' w' k2 k3 k4 k5
 | exit i => exact ⟨σ', g', k1, k2, k3, k4, k5⟩
 | goto l => exact ⟨σ', g', k1, k2, k3, k4, k5⟩
 | ret => exact ⟨σ', g', k1, k2, k3, k4, k5⟩
 | panic ch => exact ⟨σ', g', k1, k2, k3, k4, k5⟩
 | outgrown => exact ⟨σ', g', k1, k2, k3, k4, k5⟩
def preC : Nat -> Code -> Code
 | 0, .seq x _ => x
 | n + 1, .seq x y => .seq x (preC n y)
 | _, c => c
def sufC : Nat -> Code -> Code
 | 0, .seq _ y => y
 | n + 1, .seq _ y => sufC n y
 | _, _ => .skip
def okC : Nat -> Code -> Bool
 | 0, .seq _ _ => true
 | n + 1, .seq _ y => okC n y
 | _, _ => false
theorem zdq.cut : ∀ (n : Nat) {c : Code} {σ : St} {Q : Exit -> St -> Prop}, okC n c = true -> zdh N (preC n c) = true -> ex P (preC n c) [] (qh3 P N (sufC n c) Q) σ -> zdq P N c σ Q
 | 0, .seq x y, σ, Q, _, hd, h => zdq.seq (zdq.ofEx hd h)
 | n + 1, .seq x y, σ, Q, ho, hd, h => by
  simp only [preC, zdh, Bool.and_eq_true] at hd
  refine zdq.seq (zdq.mono (fun e σ' k => ?_) (zdq.ofEx (Q := _) hd.1 h))
  cases e with
  | normal => exact zdq.cut n ho hd.2 k
  | exit i => exact k
  | goto l => exact k
  | ret => exact k
  | panic ch => exact k
  | outgrown => exact k
theorem qj6 {f : FuncId} {fn : Func} {c : Code} {args : List (Bool × D)} {res : List D} (hc : zbj P f) (hf : P.funcs[f]? = some fn) (hb : fn.body = some c) (hN : args.length <= fn.ntmps) (hs : zb5 args)
  (h : ∀ (w : World) (vs : List Value) (fp tp : List Nat), za0 w (fun b => b < w.heap.size /\ b ∉ fp) args vs fp tp -> ∀ (g : Gh) (a : Act), Rel (fun b => b < w.heap.size /\ b ∉ fp) fn.ntmps (zdk args) g a w -> (a.tmps = (⟨vs⟩ : Array Value) ++ Array.replicate (fn.ntmps - vs.length) undef /\ (g.A0, g.R0) = ((fun _ => True), RP.of fun b => b ∈ fp \/ w.heap.size <= b)) →
   ∃ σ0, zdq P fn.ntmps c σ0 (PS P fn.results.toList res) /\ Rel (fun b => b < w.heap.size /\ b ∉ fp) fn.ntmps σ0 g a w) : GC P f args res := by
 refine ⟨hc, fun w vs fp tp hv hn => ?_⟩
 refine calls_of_wp hf hb ?_
 have hv' : za0 w (fun b => b < w.heap.size /\ True /\ b ∉ fp) args vs fp tp := za0.keepA (fun b hb => ⟨hb.1, trivial, hb.2⟩) hv
 obtain ⟨g, hg, hR⟩ := Rel.start (A0 := fun _ => True) (R0 := RP.of fun b => b ∈ fp \/ w.heap.size <= b) (N := fn.ntmps) hv' hn hs hN (fun _ _ => trivial) (fun b hb => ⟨trivial, Or.inl hb⟩) (fun b hb => ⟨trivial, by
  by_cases hlt : b < w.heap.size
  ·exact Or.inl (Classical.byContradiction fun h => hb ⟨hlt, h⟩)
  ·exact Or.inr (by omega)⟩)
 obtain ⟨σ0, hex, hR0⟩ := h w vs fp tp hv g _ hR ⟨rfl, hg⟩
 refine wp_mono (hex _ w _ g _ w hR0 (fun k hk => hk.1) (Bk.refl _ _) hg) fun e a' w' hq => ?_
 obtain ⟨σ', g', h1, h2, h3, h4, h5⟩ := hq
 have fin : ∀ {us : List Value} {v : Value}, (results fn a'.tmps).run P w' = .ok v w' -> v = zb9 us -> (∃ fp' tp', GDs w' res us fp' tp' /\ fp'.Nodup /\ ∀ b ∈ fp', ∃ e, σ'.On e /\ b ∈ g'.φ e) -> ∃ v, (results fn a'.tmps).run P w' = .ok v w' /\ ∃ us fp' tp', Ending.returned v = .returned (zb9 us) /\ GDs w' res us fp' tp' /\ fp'.Nodup /\ (∀ b ∈ fp', b ∈ fp \/ w.heap.size <= b) /\ Bk (fun k => k < w.heap.size /\ k ∉ fp) w w' := fun {us v} r1 rv ⟨fp', tp', o1, o2, o3⟩ => by
  refine ⟨_, r1, us, fp', tp', by rw [rv], o1, o2, fun b hb => ?_, h4⟩
  obtain ⟨e, l, m⟩ := o3 b hb
  have := (h2.ebase e l b m).2
  rw [(Prod.mk.inj h5).2] at this
  exact this
 have key : (zaw (zbv P σ' fn.results.toList) (fun vs => zwp σ' [] vs res) \/ PX P fn.results.toList res σ') -> ∃ v, (results fn a'.tmps).run P w' = .ok v w' /\ ∃ us fp' tp', Ending.returned v = .returned (zb9 us) /\ GDs w' res us fp' tp' /\ fp'.Nodup /\ (∀ b ∈ fp', b ∈ fp \/ w.heap.size <= b) /\ Bk (fun k => k < w.heap.size /\ k ∉ fp) w w' := fun hk => by
  rcases hk with hk | ⟨pl, hk⟩
  ·obtain ⟨vs, hvs, hk⟩ := zaq hk
   obtain ⟨us, r1, r2⟩ := zb1 h2 fn hvs
   obtain ⟨used, fp', tp', o1, o2⟩ := zdz h2 hk r2
   exact fin r1 rfl ⟨fp', tp', o1, o2.1, fun b hb => by obtain ⟨e, _, _, l, m⟩ := o2.2.1 b hb; exact ⟨e, l, m⟩⟩
  ·obtain ⟨vs, hvs, hk⟩ := zaq hk
   obtain ⟨us, r1, r2⟩ := zb1 h2 fn hvs
   exact fin r1 rfl (qf8 h2 hk r2)
 cases e with
 | normal => exact ⟨h2.defers, key h1⟩
 | ret => exact ⟨h2.defers, key h1⟩
 | exit _ => exact h1.elim
 | goto _ => exact h1.elim
 | panic _ => exact h1.elim
 | outgrown => exact h1.elim
theorem zey {f : FuncId} {fn : Func} {c : Code} {args res : List D} (hc : zbj P f) (hf : P.funcs[f]? = some fn) (hb : fn.body = some c) (hN : (rd args).length <= fn.ntmps)
  (h : zdq P fn.ntmps c (zjs args) (PS P fn.results.toList res)) : FC P f args res := by
 refine qj6 hc hf hb hN (zc2 args) fun w vs fp tp hv g a hR hg => ?_
 obtain ⟨hr, rfl, rfl⟩ := zdg hv
 exact ⟨zjs args, h, zp0 hr hR hg⟩
structure RelM (n0 : Nat -> Prop) (N : Nat) (σ : St) (ag : Bool) (rows : List (List T)) (b : Nat) (A0 : (Nat -> Prop) × RP) (g : Gh) (a : Act) (w : World) : Prop where
 rel : ∃ (n1 : Nat -> Prop) (es : Array MapEntry) (clk : Nat), (∀ x, n0 x -> n1 x) /\ n1 b /\ ¬ g.A0 b /\ Rel n1 N σ g a w /\ LtK n1 w /\ w.heap[b]? = some (.map es clk) /\ za9 w (fun x => n1 x /\ g.A0 x) ag rows es.toList
 nb : ¬ n0 b
 sub : ∀ x, g.A0 x -> A0.1 x
 r0 : g.R0 = A0.2
 new : ∀ x, ¬ n0 x -> A0.1 x /\ A0.2 x
attribute [go_sem] zom preC sufC
end Go.Proofs.YtemnhgmgeijkcaaGreat
namespace Go.Proofs.YtemnhgmgeijkcaaGreat
set_option linter.unusedSimpArgs false
set_option linter.unusedVariables false
set_option linter.unusedSectionVars false
set_option maxRecDepth 4000
open Go.RowKit
variable {P : Program} {N : Nat}
theorem zpv {mt kt et : TypeId} {d : TypeDesc} (hm : P.underlying mt = some (.map kt et)) (hd : P.underlying kt = some d) {w : World} {r : Nat} {es : Array MapEntry} {clk : Nat} {key val : Value} (hb : w.heap[r]? = some (.map es clk)) (hk : Go.MapKept.IsKey d key) (hf : Instr.findNow d key es.toList 0 = some none) :
  (Instr.mapUpdate mt (.map (some r)) key val).run P w = .ok () { w with heap := w.heap.setIfInBounds r (.map (es.push { key, val, born := clk }) (clk + 1)) } := by
 simp [Instr.mapUpdate, run_underlying hm, Go.MapKept.run_getObj_map hb, Go.MapKept.run_checkKey hd hk, Go.MapKept.run_findKey hd hf, Go.MapKept.run_setObj_map _ hb, Result.andThen]
theorem zpc {mt : TypeId} {w : World} : (Instr.makeMap mt none).run P w = .ok (.map (some w.heap.size)) (w.alloc (.map #[] 0)) := by
 simp [Instr.makeMap, Result.andThen]
def mvC : C -> Option T
 | .rn t => some t
 | .t t => if t.flat = true then some t else none
 | _ => none
def mvCs : List C -> Option (List T)
 | [] => some []
 | c :: cs => (mvC c).bind fun t => (mvCs cs).map fun ts => t :: ts
def mvV (ag : Bool) : V -> Option (List T)
 | .agg cs => if ag = true then mvCs cs else none
 | .one c => if ag = true then none else (mvC c).map fun t => [t]
 | _ => none
theorem zw3 {σ : St} {g : Gh} {w : World} {A : Nat -> Prop} (hA : ∀ b, zcl σ g w b -> A b) {c : C} {t : T} {v : Value} (h : mvC c = some t) (hv : CR σ g w c v) : zar w A t v := by
 cases c <;> simp only [mvC, Option.some.injEq, reduceCtorEq] at h
 ·split at h
  ·rename_i hf
   obtain rfl := Option.some.inj h
   exact zdw hf hv
  ·cases h
 ·subst h
  exact zar.keep (fun _ _ => rfl) hA _ _ hv
theorem ztd {σ : St} {g : Gh} {w : World} {A : Nat -> Prop} (hA : ∀ b, zcl σ g w b -> A b) : ∀ {cs : List C} {ts : List T} {vs : List Value}, mvCs cs = some ts -> CRs σ g w cs vs -> zae w A ts vs
 | [], ts, vs, h, hv => by
  obtain rfl := Option.some.inj h
  unfold zae
  exact hv
 | c :: cs, ts, vs, h, hv => by
  obtain ⟨t, h1, h⟩ := Option.bind_eq_some_iff.1 h
  obtain ⟨ts', h2, rfl⟩ := Option.map_eq_some_iff.1 h
  obtain ⟨v, vs', rfl, k1, k2⟩ := hv
  unfold zae
  exact ⟨v, vs', rfl, zw3 hA h1 k1, ztd hA h2 k2⟩
theorem qkb {σ : St} {g : Gh} {w : World} {A : Nat -> Prop} (hA : ∀ b, zcl σ g w b -> A b) {ag : Bool} {x : V} {ts : List T} {v : Value} (h : mvV ag x = some ts) (hv : VR σ g w x v) : ∃ us, (if ag = true then v = .agg ⟨us⟩ else us = [v]) /\ zae w A ts us := by
 cases x with
 | agg cs =>
  simp only [mvV] at h
  split at h
  ·rename_i hag
   obtain ⟨us, rfl, hc⟩ := hv
   exact ⟨us, by rw [if_pos hag], ztd hA h hc⟩
  ·cases h
 | one c =>
  simp only [mvV] at h
  split at h
  ·cases h
  ·rename_i hag
   obtain ⟨t, h1, rfl⟩ := Option.map_eq_some_iff.1 h
   refine ⟨[v], by rw [if_neg hag], ?_⟩
   unfold zae
   refine ⟨v, [], rfl, zw3 hA h1 hv, ?_⟩
   unfold zae; rfl
 | tup _ => cases h
theorem za9.push {w : World} {A : Nat -> Prop} {ag : Bool} {r : List T} {e : MapEntry} (he : ∃ us, (if ag = true then e.val = .agg ⟨us⟩ else us = [e.val]) /\ zae w A r (e.key :: us)) : ∀ {rows : List (List T)} {es : List MapEntry}, za9 w A ag rows es -> za9 w A ag (rows ++ [r]) (es ++ [e])
 | [], es, h => by
  unfold za9 at h
  subst h
  obtain ⟨us, h1, h2⟩ := he
  show za9 w A ag [r] [e]
  unfold za9
  refine ⟨e, [], us, rfl, h1, h2, ?_⟩
  unfold za9; rfl
 | _ :: rows, es, h => by
  unfold za9 at h
  obtain ⟨e', es', us, rfl, h1, h2, h3⟩ := h
  show za9 w A ag (_ :: (rows ++ [r])) (e' :: (es' ++ [e]))
  unfold za9
  exact ⟨e', _, us, rfl, h1, h2, za9.push he h3⟩
def zup (P : Program) (ag : Bool) (b : Nat) (mt : TypeId) (x k v : Operand) (σ : St) (rows : List (List T)) (K : St -> List (List T) -> Prop) : Prop := match σ.get P 0 x, σ.get P 0 k, mapT P mt, mvV ag (σ.get P 0 v) with
 | .one (.cv (.map (some b'))), .one (.t kT), some (d, _), some vts => b' = b /\ zyy d kT = true /\ zd6 kT rows = some none /\ K σ (rows ++ [kT :: vts])
 | _, _, _, _ => False
theorem qhw {ag : Bool} {b : Nat} {mt : TypeId} {x k v : Operand} {σ : St} {rows : List (List T)} {K : St -> List (List T) -> Prop} (h : zup P ag b mt x k v σ rows K) : ∃ kT d et vts, σ.get P 0 x = .one (.cv (.map (some b))) /\ σ.get P 0 k = .one (.t kT) /\ mapT P mt = some (d, et) /\ mvV ag (σ.get P 0 v) = some vts /\ zyy d kT = true /\ zd6 kT rows = some none /\ K σ (rows ++ [kT :: vts]) := by
 unfold zup at h
 split at h
 ·rename_i b' kT d et vts h1 h2 h3 h4
  obtain ⟨rfl, h5, h6, h7⟩ := h
  exact ⟨kT, d, et, vts, h1, h2, h3, h4, h5, h6, h7⟩
 ·exact h.elim
theorem znw {d : TypeDesc} {k : T} (h : zyy d k = true) : k.flat = true := by
 cases d <;> cases k <;> simp [zyy] at h <;> rfl
theorem Rel.enter1 {n0 : Nat -> Prop} {σ : St} {g : Gh} {a : Act} {w : World} (h : Rel n0 N σ g a w) (o1 : Obj) :
  Rel (fun b => n0 b \/ b = w.heap.size) N σ { g with A0 := fun b => g.A0 b /\ b ≠ w.heap.size } a (w.alloc o1) := by
 have hs : ∀ b, b < w.heap.size -> (w.alloc o1).heap[b]? = w.heap[b]? := fun b hb => Below.heap_alloc _ _ _ hb
 refine h.turn (fun b hf => ⟨⟨hf.2.2.2, ?_⟩, hs b hf.2.2.1⟩) (by simp) (fun b hb => ?_) (fun k hk => ⟨?_, hs _ (h.lt hk)⟩) (fun e ho b hm => ?_)
 ·have := hf.2.2.1; omega
 ·have h1 : ¬ n0 b := fun k => hb (Or.inl k)
  exact ⟨⟨(h.anew b h1).1, fun e => hb (Or.inr e)⟩, (h.anew b h1).2⟩
 ·have := h.lt hk
  rintro (k1 | k1)
  ·exact h.base k hk k1
  ·omega
 ·have := h.elt ho hm
  refine ⟨?_, ⟨(h.ebase e ho b hm).1, by omega⟩, hs b this⟩
  rintro (k1 | k1)
  ·exact h.etop e ho b hm k1
  ·omega
theorem RelM.leave {n0 : Nat -> Prop} {σ : St} {ag : Bool} {rows : List (List T)} {b d : Nat} {A0 : (Nat -> Prop) × RP} {g : Gh} {a : Act} {w : World} (h : RelM n0 N σ ag rows b A0 g a w) (hd : σ.sl d = .one (.cv (.map (some b)))) :
  ∃ g', Rel n0 N (σ.put (some d) (.one (.rn (.mp ag rows)))) g' a w /\ (g'.A0, g'.R0) = A0 := by
 obtain ⟨n1, es, clk, k1, k2, k3, k4, k5, k6, k7⟩ := h.rel
 have hL : Rel n0 N σ { g with A0 := A0.1 } a w := k4.leave k1 h.sub fun x hx => ⟨(h.new x hx).1, by rw [h.r0]; exact (h.new x hx).2⟩
 have hF : ∀ x, n1 x -> A0.1 x -> zcl σ { g with A0 := A0.1 } w x := fun x h1 h2 => ⟨⟨fun k hk e => k4.base k hk (e ▸ h1), fun e y he ho hh => k4.etop e ⟨y, he, ho⟩ x (List.mem_of_mem_head? hh) h1, k5 x h1, h2⟩, fun e ho hm => k4.etop e ho x hm h1⟩
 refine ⟨{ g with A0 := A0.1 }, hL.slots_of rfl rfl hL.defers hL.size fun i => ?_, by show (A0.1, g.R0) = A0; rw [h.r0]⟩
 show VR σ _ w (upd σ.sl d _ i) _
 by_cases hi : i = d
 ·subst hi
  rw [zag]
  have hv := k4.slots i
  rw [hd] at hv
  have hv : a.tmps.getD i (g.R0.ξ i) = .map (some b) := hv
  show CR σ _ w (.rn (.mp ag rows)) (a.tmps.getD i (g.R0.ξ i))
  rw [hv]
  show zar w _ (.mp ag rows) (.map (some b))
  unfold zar
  exact ⟨b, es, clk, rfl, hF b k2 (h.new b h.nb).1, k6, za9.keep (fun _ _ => rfl) (fun x hx => hF x hx.1 (h.sub x hx.2)) ag rows _ k7⟩
 ·rw [zao _ _ hi]
  exact hL.slots i
end Go.Proofs.YtemnhgmgeijkcaaGreat
namespace Go.Proofs.YtemnhgmgeijkcaaGreat
set_option linter.unusedSimpArgs false
set_option linter.unusedVariables false
set_option linter.unusedSectionVars false
set_option maxRecDepth 4000
open Go.RowKit
variable {P : Program} {N : Nat}
def mpOf : V -> Option (Bool × List (List T))
 | .one (.t (.mp ag rows)) => some (ag, rows)
 | .one (.rn (.mp ag rows)) => some (ag, rows)
 | _ => none
def tupX : V -> Option (Bool × List C)
 | .agg cs => some (true, cs)
 | .one c => some (false, [c])
 | _ => none
theorem zzc {σ : St} {g : Gh} {w : World} {x : V} {y : Bool × List C} {v : Value} (h : tupX x = some y) (hv : VR σ g w x v) : CRx σ g w y v := by
 cases x with
 | agg cs => obtain rfl := Option.some.inj h; obtain ⟨a, h1, h2⟩ := hv; exact ⟨a, h1, h2⟩
 | one c => obtain rfl := Option.some.inj h; exact ⟨c, rfl, hv⟩
 | tup _ => cases h
theorem qcc {σ : St} {g : Gh} {w : World} {x : V} {ag : Bool} {rows : List (List T)} {v : Value} (h : mpOf x = some (ag, rows)) (hv : VR σ g w x v) : zar w (Fix σ g w) (.mp ag rows) v := by
 unfold mpOf at h
 split at h
 ·cases h; exact hv
 ·cases h; exact zar.keep (fun _ _ => rfl) (fun b hb => hb.1) _ _ hv
 ·cases h
def lk2Z (P : Program) (et : TypeId) : Option V := ((P.info? et).bind (·.zero)).bind fun z => (tupX (ofV P et z)).map fun y => .tup [y, (false, [.t (.bool false)])]
def lk2 (P : Program) (σ : St) (mt : TypeId) (x ix : Operand) : Option V := match mpOf (σ.get P 0 x), σ.get P 0 ix, mapT P mt with
 | some (ag, rows), .one (.t k), some (d, et) => if zyy d k = true then (zd6 k rows).bind fun r => match r with
  | some vs => (rowV ag vs).bind fun v => (tupX v).map fun y => .tup [y, (false, [.t (.bool true)])]
  | none => lk2Z P et
  else none
 | _, _, _ => none
theorem zq7 {o : Oper} {σ : St} {mt : TypeId} {x ix : Operand} {v : V} (ho : o.op = .lookup mt x ix true) (h : lk2 P σ mt x ix = some v) : zai P o σ (σ.put o.dst v) :=
 zai.value fun n0 N g a w hR => by
  unfold lk2 at h
  split at h
  ·rename_i ag rows k d et hm hi ht
   split at h
   ·rename_i hk
    obtain ⟨r, hf, h⟩ := Option.bind_eq_some_iff.1 h
    obtain ⟨kt, t1, t2⟩ := zxw ht
    have h1 := qcc hm (hR.get P 0 x)
    have h2 := hR.get P 0 ix
    rw [hi] at h2
    have h2 : zar w (Fix σ g w) k (a.eval ix) := h2
    unfold zar at h1
    obtain ⟨b, es, clk, e1, hA, hb, he⟩ := h1
    cases r with
    | some vs =>
     obtain ⟨y, hv, h⟩ := Option.bind_eq_some_iff.1 h
     obtain ⟨z, hz, rfl⟩ := Option.map_eq_some_iff.1 h
     obtain ⟨j, u, us, f1, f2, f3⟩ := zew hk h2 ag rows es.toList 0 (some vs) he hf
     have hvr : VR σ g w y u := by
      unfold rowV at hv
      by_cases hag : ag = true
      ·rw [if_pos hag] at hv f2
       cases hv
       exact ⟨us, f2, qhd f3⟩
      ·rw [if_neg hag] at hv f2
       subst f2
       rcases vs with _ | ⟨t, _ | ⟨t', vs⟩⟩
       ·cases hv
       ·cases hv
        unfold zae at f3
        obtain ⟨v', vs', e, h3, _⟩ := f3
        cases e
        exact h3
       ·cases hv
     refine ⟨.tuple #[u, .bool true], ?_, [u, .bool true], rfl, u, [.bool true], rfl, zzc hz hvr, .bool true, [], rfl, ⟨.t (.bool true), rfl, rfl⟩, rfl⟩
     unfold execOp
     simp only [ho]
     simp [Instr.lookup, run_underlying t1, e1, Go.MapKept.run_getObj_map hb, Go.MapKept.run_checkKey t2 (znd hk h2), Go.MapKept.run_findKey t2 f1, Result.andThen]
    | none =>
     obtain ⟨zv, hz0, h⟩ := Option.bind_eq_some_iff.1 h
     obtain ⟨y, hy, rfl⟩ := Option.map_eq_some_iff.1 h
     obtain ⟨i, hi1, hi2⟩ := Option.bind_eq_some_iff.1 hz0
     have f1 := zew hk h2 ag rows es.toList 0 none he hf
     have hvr : VR σ g w (ofV P et zv) zv := qgw P σ g w et zv
     refine ⟨.tuple #[zv, .bool false], ?_, [zv, .bool false], rfl, zv, [.bool false], rfl, zzc hy hvr, .bool false, [], rfl, ⟨.t (.bool false), rfl, rfl⟩, rfl⟩
     unfold execOp
     simp only [ho]
     simp [Instr.lookup, run_underlying t1, e1, Go.MapKept.run_getObj_map hb, Go.MapKept.run_checkKey t2 (znd hk h2), Go.MapKept.run_findKey t2 f1, Result.andThen, zeroValue, typeInfo, hi1, hi2]
   ·cases h
  ·cases h
section
variable {ks : List Fr} {Q : Exit -> St -> Prop} {σ : St} {ops : Array Oper} {os : List Oper} {L : List (List Ky × List Ky)} {ty : TypeId} {ps : String} {af : Array Edge} {dst : Option Nat} {mt : TypeId} {x ix : Operand} {v : V}
theorem zgy (h : lk2 P σ mt x ix = some v) (k : exo P ops os ks Q (σ.put dst v)) : exo P ops (⟨dst, .lookup mt x ix true, ty, ps, af, none⟩ :: os) ks Q σ := zcv rfl rfl (zq7 rfl h) k
end
attribute [go_sem] mpOf tupX lk2 zup mvC mvCs mvV Option.bind_some Option.map_some
end Go.Proofs.YtemnhgmgeijkcaaGreat
namespace Go.Proofs.YtemnhgmgeijkcaaGreat
set_option linter.unusedSimpArgs false
set_option linter.unusedVariables false
set_option linter.unusedSectionVars false
set_option maxRecDepth 4000
open Go.RowKit
theorem qhy {m : Str} (h : zbi m = true) (xs : List Tm) : (Tm.mk m xs).names = decide (xs.length = 0) := by rw [Tm.names_eq]; exact if_pos h
theorem qi5 {m : Str} (h : ¬ zbi m = true) (xs : List Tm) : (Tm.mk m xs).names = (zc0 m && decide (xs.length <= 4) && xs.all Tm.names) := by rw [Tm.names_eq]; exact if_neg h
def nmA (a : Tm) : Bool := if (a.name == [61]) = true then decide (a.args.length = 2) && a.args.all Tm.names else zc0 a.name && a.names
theorem zoi (a : Tm) : a.atomOk = (nmA a && zdr a) := by
 unfold Tm.atomOk nmA Tm.good
 split
 ·rw [Bool.and_assoc, Bool.and_comm (zdr a), Bool.and_assoc]
 ·rw [Bool.and_comm (zdr a), Bool.and_assoc]
theorem nmA_eq {a : Tm} (h : nmA a = true) : zbi a.name = false /\ a.args.all Tm.names = true := by
 unfold nmA at h
 split at h
 ·rename_i he
  have he : a.name = [61] := by simpa using he
  rw [Bool.and_eq_true] at h
  rw [he]
  exact ⟨by decide, h.2⟩
 ·rw [Bool.and_eq_true] at h
  have hv := zvf h.1
  have h2 := h.2
  rw [Tm.names_eq, hv, if_neg (by simp)] at h2
  simp only [Bool.and_eq_true] at h2
  exact ⟨hv, h2.2⟩
theorem zsi {α : Type} (f g : α -> Nat) : ∀ (xs : List α), (∀ x ∈ xs, f x <= g x) -> (xs.map f).sum <= (xs.map g).sum
 | [], _ => Nat.le_refl _
 | x :: xs, H => by
  have := H x (by simp)
  have := zsi f g xs fun y hy => H y (by simp [hy])
  rw [List.map_cons, List.map_cons, List.sum_cons, List.sum_cons]; omega
theorem zsr {α : Type} (f : α -> Nat) : ∀ xs : List α, (xs.map fun x => 8 * f x).sum = 8 * (xs.map f).sum
 | [] => rfl
 | x :: xs => by rw [List.map_cons, List.sum_cons, zsr f xs, List.map_cons, List.sum_cons]; omega
theorem zy1 {α : Type} (w : α -> Nat) : ∀ xs : List α, (xs.map fun x => 1 + w x).sum = xs.length + (xs.map w).sum
 | [] => rfl
 | a :: l => by rw [List.map_cons, List.sum_cons, zy1 w l, List.length_cons, List.map_cons, List.sum_cons]; omega
theorem zpl {xs : List Tm} (H : ∀ x ∈ xs, 1 + x.wt <= 8 * x.nodes) : xs.length + (xs.map Tm.wt).sum <= 8 * (xs.map Tm.nodes).sum := by
 rw [<- zy1, <- zsr]
 exact zsi _ _ xs H
theorem ztm : ∀ a : Tm, a.names = true -> 1 + a.wt <= 8 * a.nodes := zby fun m xs ih h => by
 have hw : (Tm.mk m xs).wt = m.length + xs.length + (xs.map Tm.wt).sum := Tm.wt_eq _
 have hn : (Tm.mk m xs).nodes = 1 + (xs.map Tm.nodes).sum := Tm.nodes_eq _
 rw [hw, hn]
 by_cases hm : zbi m = true
 ·rw [qhy hm] at h
  have hx : xs = [] := List.length_eq_zero_iff.1 (of_decide_eq_true h)
  subst hx
  unfold zbi inB at hm
  simp only [Bool.and_eq_true, decide_eq_true_eq] at hm
  simp only [List.map_nil, List.sum_nil, List.length_nil]
  omega
 ·rw [qi5 hm] at h
  simp only [Bool.and_eq_true] at h
  have h1 : zc0 m = true := h.1.1
  unfold zc0 inB at h1
  simp only [Bool.and_eq_true, decide_eq_true_eq] at h1
  have h2 := zpl fun x hx => ih x hx (List.all_eq_true.1 h.2 x hx)
  omega
theorem znx {a : Tm} (h : a.atomOk = true) : a.wt <= 512 := by
 rw [zoi, Bool.and_eq_true] at h
 obtain ⟨h1, h2⟩ := h
 have h4 := (nmA_eq h1).2
 have hl : a.name.length <= 6 := by
  unfold nmA at h1
  split at h1
  ·rename_i he
   rw [beq_iff_eq.1 he]; simp
  ·rw [Bool.and_eq_true] at h1
   have h1 := h1.1
   unfold zc0 inB at h1
   simp only [Bool.and_eq_true, decide_eq_true_eq] at h1
   omega
 unfold zdr at h2
 simp only [Bool.and_eq_true, decide_eq_true_eq] at h2
 have hn := a.nodes_eq
 have hw := a.wt_eq
 have h5 := zpl fun x hx => ztm x (List.all_eq_true.1 h4 x hx)
 omega
end Go.Proofs.YtemnhgmgeijkcaaGreat
namespace Go.Proofs.YtemnhgmgeijkcaaGreat
set_option linter.unusedSimpArgs false
set_option linter.unusedVariables false
set_option linter.unusedSectionVars false
set_option maxRecDepth 4000
open Go.RowKit
def evF : Fm -> (Tm -> Bool) -> Bool := Fm.fold fun o a _ _ rs v =>
 if (o == 1) = true then true else if (o == 3) = true then v a else if (o == 4) = true then !((rs.map fun r => r v).getD 0 false)
 else if (o == 5) = true then (rs.map fun r => r v).getD 0 false && (rs.map fun r => r v).getD 1 false
 else if (o == 6) = true then (rs.map fun r => r v).getD 0 false || (rs.map fun r => r v).getD 1 false
 else if (o == 7) = true then !((rs.map fun r => r v).getD 0 false) || (rs.map fun r => r v).getD 1 false else false
def evs (f : Fm) (v : Tm -> Bool) : List Bool := f.parts.map fun p => evF p v
end Go.Proofs.YtemnhgmgeijkcaaGreat
namespace Go.Proofs.YtemnhgmgeijkcaaGreat
set_option linter.unusedSimpArgs false
set_option linter.unusedVariables false
set_option linter.unusedSectionVars false
set_option maxRecDepth 4000
open Go.RowKit
theorem zca {α : Type} {xs : List α} {k : Nat} (h : k < xs.length) (d : α) : xs.getD k d = xs[k] := by rw [List.getD_eq_getElem?_getD, List.getElem?_eq_getElem h]; rfl
end Go.Proofs.YtemnhgmgeijkcaaGreat
namespace Go.Proofs.YtemnhgmgeijkcaaGreat
set_option linter.unusedSimpArgs false
set_option linter.unusedVariables false
set_option linter.unusedSectionVars false
set_option maxRecDepth 4000
open Go.RowKit
theorem zyz {α : Type} (a b : α) : same a b = same b a := by
 rw [Bool.eq_iff_iff, zcc, zcc]; exact eq_comm
end Go.Proofs.YtemnhgmgeijkcaaGreat
namespace Go.Proofs.YtemnhgmgeijkcaaGreat
set_option linter.unusedSimpArgs false
set_option linter.unusedVariables false
set_option linter.unusedSectionVars false
set_option maxRecDepth 4000
open Go.RowKit
theorem ztw {f : Fm} (h : f.here = true) (hq : isQ f.op = false) : f.var = [] := by
 unfold Fm.here at h
 rw [hq] at h
 simp only [Bool.false_eq_true, if_false] at h
 (repeat' split at h) <;> first | (simp only [Bool.and_eq_true, beq_iff_eq] at h; exact h.2) | cases h
end Go.Proofs.YtemnhgmgeijkcaaGreat
namespace Go.Proofs.YtemnhgmgeijkcaaGreat
set_option linter.unusedSimpArgs false
set_option linter.unusedVariables false
set_option linter.unusedSectionVars false
set_option maxRecDepth 4000
open Go.RowKit
variable {P : Program}
def VDn (σ : St) : List V -> List D -> Prop
 | [], ds => ds = []
 | v :: vs, ds => ∃ d ds', ds = d :: ds' /\ (VD σ v d \/ ∃ s sz, v = .one (.nl s) /\ d = .one (.pin (.slice none 0 0) (.sl sz []))) /\ VDn σ vs ds'
theorem VD.rep1 {n0 : Nat -> Prop} {N : Nat} {σ : St} {g : Gh} {a : Act} {w : World} (hR : Rel n0 N σ g a w) {x : V} {d : D} (h : VD σ x d) {v : Value} (hv : VR σ g w x v) : zwl w (· < w.heap.size) d v := by
 have : VDs σ [x] [d] := ⟨d, [], rfl, h, rfl⟩
 obtain ⟨_, _, e, h1, _⟩ := VDs.rep hR this (vs := [v]) ⟨v, [], rfl, hv, rfl⟩
 cases e
 exact h1
theorem VDn.rep {n0 : Nat -> Prop} {N : Nat} {σ : St} {g : Gh} {a : Act} {w : World} (hR : Rel n0 N σ g a w) : ∀ {xs : List V} {ds : List D}, VDn σ xs ds -> ∀ {vs : List Value}, VRl σ g w xs vs -> zbo w (· < w.heap.size) ds vs
 | [], ds, h, vs, hv => by rw [show ds = [] from h]; exact hv
 | x :: xs, ds, h, vs, hv => by
  obtain ⟨d, ds', rfl, h1, h2⟩ := h
  obtain ⟨v, vs', rfl, k1, k2⟩ := hv
  refine ⟨v, vs', rfl, ?_, VDn.rep hR h2 k2⟩
  rcases h1 with h1 | ⟨s, sz, rfl, rfl⟩
  ·exact VD.rep1 hR h1 k1
  ·have k1 : v = .slice none 0 0 := k1
   subst k1
   show zar _ _ (.pin _ _) _
   unfold zar
   refine ⟨rfl, ?_⟩
   unfold zar
   exact ⟨none, 0, rfl, Nat.le_refl _, by simp, Or.inl rfl⟩
theorem zwb {o : Oper} {σ : St} {x : Operand} {asx : Array Operand} {ts : Array TypeId} {f : FuncId} {cvs : List V} {d : Nat} {ds res : List D} (ho : o.op = .call ⟨.value x, asx, ts⟩) (hd : o.dst = some d)
  (h : FC P f ds res) (hc : za1 (σ.get P 0 x) = some (f, cvs)) (hv : VDn σ (σ.gets P asx ts ++ cvs) ds) (hf : zgt d 0 (za8 res) σ.ev) : zai P o σ (σ.callF d res) := by
 intro n0 N g a w hR hn hdN
 obtain ⟨vs, h1, h2⟩ := zdv hR ho hc h.1
 unfold Oper.wp
 rw [h1]
 refine (h.use (VDn.rep hR hv h2)).mono ?_
 rintro e w' ⟨us, fp, rfl, o1, o2, o3, hb⟩
 obtain ⟨g', k1, k2, k3⟩ := New.cells (σ := σ) (g := g) (NB := (w.heap.size <= ·)) (w' := w') d (za8 res) _ fp 0 σ.ev g [] (New.refl _ _ _ _ hR.slc) (fun e h1 h2 => absurd h1 h2) hf o1.cells o2 (fun b hb' => ⟨o3 b hb', by simp⟩)
 have hR' := hR.after hn hb k1
 refine ⟨g', ?_, Bk.of_below hb hn, k1.A0, k1.R0⟩
 have hp := hR'.put (some d) (x := zld (zvt d 0 res)) (v := zb9 us) (zez (zjz d 0 o1 (k3 _ _ rfl)) (zgx d res 0)) (fun i hi => by cases hi; exact hdN d hd)
 rw [hd]
 exact hp
section
variable {ks : List Fr} {Q : Exit -> St -> Prop} {σ : St} {ops : Array Oper} {os : List Oper} {ty : TypeId} {ps : String} {af : Array Edge}
theorem callFn {d : Nat} {x : Operand} {asx : Array Operand} {ts : Array TypeId} {f : FuncId} {ds res : List D} (h : FC P f ds res) (hp : zaw (za1 (σ.get P 0 x)) fun p => p.1 = f /\ VDn σ (σ.gets P asx ts ++ p.2) ds /\ zgt d 0 (za8 res) σ.ev)
  (k : exo P ops os ks Q (σ.callF d res)) : exo P ops (⟨some d, .call ⟨.value x, asx, ts⟩, ty, ps, af, none⟩ :: os) ks Q σ := by
 obtain ⟨⟨f', cvs⟩, h1, rfl, h2, h3⟩ := zaq hp
 exact zcv rfl rfl (zwb rfl rfl h h1 h2 h3) k
end
theorem vdn_nl (σ : St) (s sz : Nat) (vs : List V) (ds : List D) : VDn σ (.one (.nl s) :: vs) (.one (.pin (.slice none 0 0) (.sl sz [])) :: ds) = VDn σ vs ds := propext ⟨fun h => by
 obtain ⟨d, ds', e, _, h⟩ := h
 obtain ⟨rfl, rfl⟩ := List.cons.inj e
 exact h, fun h => ⟨_, _, rfl, Or.inr ⟨_, _, rfl, rfl⟩, h⟩⟩
theorem vdn_t (σ : St) (t : T) (vs : List V) (ds : List D) : VDn σ (.one (.t t) :: vs) (.one t :: ds) = VDn σ vs ds := propext ⟨fun h => by
 obtain ⟨d, ds', e, _, h⟩ := h
 obtain ⟨rfl, rfl⟩ := List.cons.inj e
 exact h, fun h => ⟨_, _, rfl, Or.inl rfl, h⟩⟩
theorem qin (σ : St) : VDn σ [] [] = True := by unfold VDn; simp
end Go.Proofs.YtemnhgmgeijkcaaGreat
namespace Go.Proofs.YtemnhgmgeijkcaaGreat
set_option linter.unusedSimpArgs false
set_option linter.unusedVariables false
set_option linter.unusedSectionVars false
set_option maxRecDepth 4000
open Go.RowKit
section
variable {P : Program}
theorem ct0_A {n0 : Nat -> Prop} {N : Nat} {σ : St} {g : Gh} {a : Act} {w : World} (hR : Rel n0 N σ g a w) {c : C} {t : T} (h : CT0 σ c t) {v : Value} (hv : CR σ g w c v) : zar w (fun b => b < w.heap.size /\ g.A0 b) t v := by
 have hF : ∀ b, Fix σ g w b -> b < w.heap.size /\ g.A0 b := fun b hb => ⟨hb.2.2.1, hb.2.2.2⟩
 have hFr : ∀ b, zcl σ g w b -> b < w.heap.size /\ g.A0 b := fun b hb => hF b hb.1
 cases c with
 | t x =>
  have h : x = t := h
  subst h
  exact zar.keep (fun _ _ => rfl) hF x v hv
 | rn x =>
  have h : x = t := h
  subst h
  exact zar.keep (fun _ _ => rfl) hFr x v hv
 | nl s =>
  cases t with
  | sl sz rows =>
   have h : rows = [] := h
   subst h
   have hv : v = .slice none 0 0 := hv
   subst hv
   unfold zar
   exact ⟨none, 0, rfl, Nat.le_refl _, by simp, Or.inl rfl⟩
  | _ => exact h.elim
 | ow e n =>
  cases t with
  | sl sz rows =>
   obtain ⟨d, o, he⟩ := h
   obtain ⟨rfl, -⟩ := hv
   cases o
   ·exact zar.keep (fun _ _ => rfl) hF _ _ (hR.offs e _ he rfl).1
   ·have hOn : σ.On e := ⟨_, he, rfl⟩
    have hlt : ∀ b ∈ g.φ e, b < w.heap.size := (hR.evs e _ he rfl).lt
    obtain ⟨ao, cap, e1, e2, e3, e4⟩ := hR.evs e _ he rfl
    unfold zar
    refine ⟨ao, cap, e1, e2, e3, ?_⟩
    rcases e4 with ⟨_, _, e4, _⟩ | ⟨b, cells, ty, fps, k1, k2, k3, k4, k5⟩
    ·exact Or.inl e4
    ·have hA : ∀ b' ∈ g.φ e, b' < w.heap.size /\ g.A0 b' := fun b' hb' => ⟨hlt b' hb', (hR.ebase e hOn b' hb').1⟩
     refine Or.inr ⟨b, 0, k1, hA b (by rw [k2]; simp), ?_⟩
     split at k5
     ·exact zam.rep b cells ty k3 0 sz rows fps k5 fun b' hb' => hA b' (by rw [k2]; simp [hb'])
     ·exact zau.keep (fun _ _ => rfl) hF b rfl 0 sz rows k5.2
  | _ => exact h.elim
 | el cs o =>
  cases t with
  | ptr cs' =>
   obtain ⟨rfl, rfl⟩ := h
   obtain ⟨b, q, h1, h2, h3⟩ := hv
   unfold zar
   exact ⟨b, q, h1, hF b h2, zbb.keep (fun _ _ => rfl) hF b rfl q cs h3⟩
  | _ => exact h.elim
 | er cs o =>
  cases t with
  | ptr cs' =>
   obtain ⟨rfl, rfl⟩ := h
   obtain ⟨b, q, h1, h2, h3⟩ := hv
   unfold zar
   exact ⟨b, q, h1, hFr b h2, zbb.keep (fun _ _ => rfl) hFr b rfl q cs h3⟩
  | _ => exact h.elim
 | _ => cases t <;> exact h.elim
theorem qgz {n0 : Nat -> Prop} {N : Nat} {σ : St} {g : Gh} {a : Act} {w : World} (hR : Rel n0 N σ g a w) : ∀ {cs : List C} {ts : List T}, zpn σ cs ts -> ∀ {vs : List Value}, CRs σ g w cs vs -> zae w (fun b => b < w.heap.size /\ g.A0 b) ts vs
 | [], ts, h, vs, hv => by rw [show ts = [] from h]; unfold zae; exact hv
 | c :: cs, ts, h, vs, hv => by
  obtain ⟨t, ts', rfl, h1, h2⟩ := h
  obtain ⟨v, vs', rfl, k1, k2⟩ := hv
  unfold zae
  exact ⟨v, vs', rfl, ct0_A hR h1 k1, qgz hR h2 k2⟩
def RVe (σ : St) : List V -> List D -> Prop
 | [], [] => True
 | .one c :: vs, .one t :: ds => CT0 σ c t /\ RVe σ vs ds
 | .agg cs :: vs, .agg ts :: ds => zpn σ cs ts /\ RVe σ vs ds
 | _, _ => False
theorem RVe.rep {n0 : Nat -> Prop} {N : Nat} {σ : St} {g : Gh} {a : Act} {w : World} (hR : Rel n0 N σ g a w) : ∀ {vs : List V} {ds : List D}, RVe σ vs ds -> ∀ {us : List Value}, VRl σ g w vs us -> zbo w (fun b => b < w.heap.size /\ g.A0 b) ds us
 | [], [], _, us, hv => hv
 | .one c :: vs, .one t :: ds, h, us, hv => by
  obtain ⟨u, us', rfl, k1, k2⟩ := hv
  exact ⟨u, us', rfl, ct0_A hR h.1 k1, RVe.rep hR h.2 k2⟩
 | .agg cs :: vs, .agg ts :: ds, h, us, hv => by
  obtain ⟨u, us', rfl, ⟨q, rfl, k1⟩, k2⟩ := hv
  exact ⟨_, us', rfl, ⟨q, rfl, qgz hR h.1 k1⟩, RVe.rep hR h.2 k2⟩
 | [], _ :: _, h, _, _ => h.elim
 | .one _ :: _, [], h, _, _ => h.elim
 | .one _ :: _, .agg _ :: _, h, _, _ => h.elim
 | .agg _ :: _, [], h, _, _ => h.elim
 | .agg _ :: _, .one _ :: _, h, _, _ => h.elim
 | .tup _ :: _, [], h, _, _ => h.elim
 | .tup _ :: _, _ :: _, h, _, _ => h.elim
def PRe (P : Program) (rs : List ResultVar) (res : List D) (e : Exit) (σ : St) : Prop := match e with
 | .normal => zaw (zbv P σ rs) fun vs => RVe σ vs res
 | .ret => zaw (zbv P σ rs) fun vs => RVe σ vs res
 | _ => False
theorem zbf {f : FuncId} {fn : Func} {c : Code} {args res : List D} (hc : zbj P f) (hf : P.funcs[f]? = some fn) (hb : fn.body = some c) (hd : zdh fn.ntmps c = true) (hN : (rd args).length <= fn.ntmps)
  (h : ex P c [] (PRe P fn.results.toList res) (zdk (rd args))) : RC P f args res := by
 refine ⟨hc, fun w vs A hv => ?_⟩
 refine calls_of_wp hf hb ?_
 have hg : ∀ (ds : List D) (vs : List Value), zbo w (fun b => b < w.heap.size /\ A b) ds vs -> za0 w (fun b => b < w.heap.size /\ A b /\ b ∉ ([] : List Nat)) (rd ds) vs [] [] := by
  intro ds
  induction ds with
  | nil => intro vs h; exact ⟨h, rfl, rfl⟩
  | cons d ds ih =>
   rintro vs ⟨v, vs', rfl, h1, h2⟩
   refine ⟨v, vs', rfl, ?_, ih _ h2⟩
   cases d with
   | one t => exact zar.keep (fun _ _ => rfl) (fun b hb => ⟨hb.1, hb.2, by simp⟩) t _ h1
   | agg ts => obtain ⟨a, h0, h1⟩ := h1; exact ⟨a, h0, zae.keep (fun _ _ => rfl) (fun b hb => ⟨hb.1, hb.2, by simp⟩) ts a h1⟩
 obtain ⟨g, hg, hR⟩ := Rel.start (A := A) (A0 := fun b => A b \/ w.heap.size <= b) (R0 := RP.of fun _ => True) (N := fn.ntmps) (hg _ _ hv) List.nodup_nil (zc2 args) hN (fun _ hb => Or.inl hb) (fun b hb => by simp at hb) (fun b hb => ⟨Or.inr (by
  refine Nat.le_of_not_lt fun hlt => hb ⟨hlt, by simp⟩), trivial⟩)
 refine wp_mono (zbq (w0 := w) c (zdk (rd args)) _ hd h g _ w hR (fun k hk => hk.1) (Bk.refl _ _) hg) fun e a' w' hq => ?_
 obtain ⟨σ', g', h1, h2, h3, h4, h5⟩ := hq
 have key : zaw (zbv P σ' fn.results.toList) (fun vs => RVe σ' vs res) -> ∃ v, (results fn a'.tmps).run P w' = .ok v w' /\ ∃ us, Ending.returned v = .returned (zb9 us) /\ zbo w' (fun b => b < w'.heap.size /\ (A b \/ w.heap.size <= b)) res us /\ Below w.heap.size w w' := fun hk => by
  unfold zaw at hk
  split at hk
  ·rename_i vs hvs
   obtain ⟨us, r1, r2⟩ := zb1 h2 fn hvs
   refine ⟨_, r1, us, rfl, (RVe.rep h2 hk r2).keep (fun _ _ => rfl) fun b hb => ⟨hb.1, ?_⟩, h4.os, h4.tape, h4.output, h4.size, fun k hk => h4.block k ⟨hk, by simp⟩⟩
   have := hb.2
   simp only [Prod.mk.injEq] at h5
   rw [h5.1] at this
   exact this
  ·exact hk.elim
 cases e with
 | normal => exact ⟨h2.defers, key h1⟩
 | ret => exact ⟨h2.defers, key h1⟩
 | exit _ => exact h1.elim
 | goto _ => exact h1.elim
 | panic _ => exact h1.elim
 | outgrown => exact h1.elim
attribute [go_sem] PRe RVe
end
end Go.Proofs.YtemnhgmgeijkcaaGreat
namespace Go.Proofs.YtemnhgmgeijkcaaGreat
set_option linter.unusedSimpArgs false
set_option linter.unusedVariables false
set_option linter.unusedSectionVars false
set_option maxRecDepth 4000
open Go.RowKit
theorem zqt {f : Fm} (hf : f.forms = true) : ∀ p ∈ f.parts, p.forms = true := by
 rw [Fm.forms_eq, Bool.and_eq_true] at hf
 exact List.all_eq_true.1 hf.2
end Go.Proofs.YtemnhgmgeijkcaaGreat
namespace Go.Proofs.YtemnhgmgeijkcaaGreat
set_option linter.unusedSimpArgs false
set_option linter.unusedVariables false
set_option linter.unusedSectionVars false
set_option maxRecDepth 4000
open Go.RowKit
theorem qa7 {o : Int} {a : Tm} {v : Str} {xs : List Fm} (h : (Fm.mk o a v xs).forms = true) : (Fm.mk o a v xs).here = true /\ ∀ x ∈ xs, x.forms = true := by
 rw [Fm.forms_eq, Bool.and_eq_true] at h
 exact ⟨h.1, List.all_eq_true.1 h.2⟩
theorem qha {o : Int} (h3 : (o == 3) = true) {a : Tm} {v : Str} {xs : List Fm} (h : (Fm.mk o a v xs).here = true) : o = 3 /\ xs = [] /\ v = [] /\ a.atomOk = true := by
 have e : o = 3 := by simpa using h3
 subst e
 rw [zz4] at h
 simp only [show ((3 : Int) == 1 || (3 : Int) == 2) = false from rfl, Bool.false_eq_true, if_false, h3, if_true, Bool.and_eq_true, decide_eq_true_eq, beq_iff_eq] at h
 exact ⟨rfl, List.length_eq_zero_iff.1 h.1.1, h.2, h.1.2⟩
theorem qf2 {t : Tm} (h : t.good = true) : t.names = true := by unfold Tm.good at h; rw [Bool.and_eq_true] at h; exact h.2
theorem zs2 : ∀ f : Fm, f.forms = true -> f.wt <= 520 * f.nodes := zce fun o a v xs ih hf => by
 obtain ⟨hh, hx⟩ := qa7 hf
 have hw : (Fm.mk o a v xs).wt = a.wt + v.length + xs.length + (xs.map Fm.wt).sum := Fm.wt_eq _
 have hn : (Fm.mk o a v xs).nodes = 1 + (xs.map Fm.nodes).sum := Fm.nodes_eq _
 have hs : (xs.map Fm.wt).sum <= (xs.map fun x => 520 * x.nodes).sum := zsi _ _ xs fun x hm => ih x hm (hx x hm)
 have hs2 : (xs.map fun x => 520 * x.nodes).sum = 520 * (xs.map Fm.nodes).sum := by
  clear hs hw hn hx hh hf ih
  induction xs with
  | nil => rfl
  | cons x xs ih2 => rw [List.map_cons, List.sum_cons, ih2, List.map_cons, List.sum_cons]; omega
 rw [hw, hn]
 cases h3 : o == 3
 ·have h3' : ((Fm.mk o a v xs).op == 3) = false := h3
  have ha : a = .mk [] [] := zyo hh h3'
  have haw : a.wt = 0 := by rw [ha]; rfl
  have hl : xs.length <= 2 /\ v.length <= 4 := by
   rcases zd3 hf with ⟨h1, h2⟩ | ⟨p, h1, _⟩ | ⟨o', p, q, _, h1, _⟩ | ⟨o', v', p, ho, h1, _⟩
   ·have h1 : xs = [] := h1
    refine ⟨by rw [h1]; simp, ?_⟩
    have := ztw hh (by rcases h2 with h | h | h <;> (rw [h]; rfl))
    have this : v = [] := this
    rw [this]; simp
   ·cases h1; exact ⟨by simp, by simp⟩
   ·cases h1; exact ⟨by simp, by simp⟩
   ·cases h1
    refine ⟨by simp, ?_⟩
    have := zx4 hh (by rcases ho with h | h <;> (rw [show (Fm.mk o _ v [p]).op = o from rfl, h]; rfl))
    have this : zbi v = true := this
    unfold zbi inB at this
    simp only [Bool.and_eq_true, decide_eq_true_eq] at this
    omega
  omega
 ·obtain ⟨rfl, rfl, rfl, h4⟩ := qha h3 hh
  have := znx h4
  simp only [List.length_nil, List.map_nil, List.sum_nil]
  omega
theorem zcx {f : Fm} (h : f.good = true) : f.wt <= 20800 := by
 have h1 := zs2 f (ze4 h)
 unfold Fm.good at h
 rw [Bool.and_eq_true, decide_eq_true_eq] at h
 omega
end Go.Proofs.YtemnhgmgeijkcaaGreat
namespace Go.Proofs.YtemnhgmgeijkcaaGreat
set_option linter.unusedSimpArgs false
set_option linter.unusedVariables false
set_option linter.unusedSectionVars false
set_option maxRecDepth 4000
open Go.RowKit
theorem qeo {t : Tm} (h : t.good = true) : t.wt <= 240 := by
 have h1 := ztm t (qf2 h)
 unfold Tm.good zdr at h
 simp only [Bool.and_eq_true, decide_eq_true_eq] at h
 omega
end Go.Proofs.YtemnhgmgeijkcaaGreat
namespace Go.Proofs.YtemnhgmgeijkcaaGreat
set_option linter.unusedSimpArgs false
set_option linter.unusedVariables false
set_option linter.unusedSectionVars false
set_option maxRecDepth 4000
open Go.RowKit
def onL (r : Int) : Bool := r == 1 || r == 3 || r == 5 || r == 7 || r == 9 || r == 11 || r == 13
def opL (r : Int) : Int := if r = 2 then 1 else if r = 3 \/ r = 4 then 4 else if r = 5 \/ r = 6 then 5 else if r = 7 \/ r = 8 then 6 else if r = 9 \/ r = 10 then 7 else if r = 11 \/ r = 12 then 8 else if r = 13 \/ r = 14 then 9 else 0
def qeb (r : Int) : Bool := r == 11 || r == 14
def zal : Fm := mkF 0 []
def zfl (xs : List Fm) (gone : Int) (k : Nat) : List Fm := ((List.range k).filter fun i : Nat => !((i : Int) == gone)).map fun i => xs.getD i zal
def zem (xs : List Fm) (gone : Int) : List Fm := zfl xs gone xs.length
theorem zlq (xs : List Fm) (g : Int) : zfl xs g 0 = [] := rfl
theorem zid (xs : List Fm) (g : Int) {k : Nat} (h : k < xs.length) : zfl xs g (k + 1) = zfl xs g k ++ if ((k : Int) == g) = true then [] else [xs[k]] := by
 unfold zfl
 rw [List.range_succ, List.filter_append, List.map_append]
 congr 1
 cases hb : ((k : Int) == g)
 ·simp [hb, List.getD, h]
 ·simp [hb]
theorem zpa (xs : List Fm) (g : Int) (k : Nat) : (zfl xs g k).length <= k := by
 unfold zfl
 rw [List.length_map]
 have := List.length_filter_le (fun i : Nat => !((i : Int) == g)) (List.range k)
 rw [List.length_range] at this
 exact this
theorem zh0 (xs : List Fm) (g : Int) : (zem xs g).Sublist xs := by
 have h : ((List.range xs.length).map fun i => xs.getD i zal) = xs := List.ext_getElem (by simp) fun i h1 h2 => by simp [List.getD, h2]
 have h2 : (zem xs g).Sublist ((List.range xs.length).map fun i => xs.getD i zal) := List.filter_sublist.map _
 rw [h] at h2
 exact h2
theorem zjf (xs : List Fm) {g : Int} (hg : g < 0) : zem xs g = xs := by
 have h : ((List.range xs.length).map fun i => xs.getD i zal) = xs := List.ext_getElem (by simp) fun i h1 h2 => by simp [List.getD, h2]
 unfold zem zfl
 rw [List.filter_eq_self.2 fun i _ => ?_]
 ·exact h
 ·simp only [Bool.not_eq_true', beq_eq_false_iff_ne]; omega
theorem zt5 : ∀ {l1 l2 : List Fm}, l1.Sublist l2 -> zb7 l1 <= zb7 l2 := fun h => by
 induction h with
 | slnil => exact Nat.le_refl _
 | cons a _ ih => unfold zb7 at ih ⊢; rw [List.length_cons, List.map_cons, List.sum_cons]; omega
 | cons_cons a _ ih => unfold zb7 at ih ⊢; rw [List.length_cons, List.map_cons, List.sum_cons, List.length_cons, List.map_cons, List.sum_cons]; omega
theorem qep (a b : List Fm) : zb7 (a ++ b) = zb7 a + zb7 b := by
 unfold zb7
 rw [List.length_append, List.map_append, List.sum_append]; omega
def zbg (s : Sq) (l : Int) (more : List Fm) (r : Int) (extra : List Fm) : Sq := ⟨zem s.left l ++ more, zem s.right r ++ extra⟩
def zbw (s : Sq) (r : Int) : List Fm := if onL r = true then s.left else s.right
def zb3 (s : Sq) (d : Dv) : Fm := (zbw s d.rule).getD d.main.toNat zal
def zbp (s : Sq) (d : Dv) : Bool := inB d.main 0 ((zbw s d.rule).length - 1) && (opL d.rule == 0 || (zb3 s d).op == opL d.rule)
noncomputable def zfg (s : Sq) (n : Str) : Bool := (s.left.any fun f => (zba [] (vf f [])).contains n) || s.right.any fun f => (zba [] (vf f [])).contains n
noncomputable def zi3 (s : Sq) (d : Dv) (f : Fm) : List Sq × Bool :=
 if (!qeb d.rule && (!zbi d.term.name || zfg s d.term.name)) = true then ([], false)
 else if (sbF f.var d.term (f.parts.getD 0 zal)).2 = true then (if onL d.rule = true then ([⟨[(sbF f.var d.term (f.parts.getD 0 zal)).1], []⟩], true) else ([⟨[], [(sbF f.var d.term (f.parts.getD 0 zal)).1]⟩], true))
 else ([], false)
noncomputable def zb6 (s : Sq) (r : Int) (f : Fm) : List Sq × Bool :=
 if r = 1 then ([], f.op == 2 || s.right.any fun g => same f g)
 else if r = 2 then ([], true)
 else if r = 3 then ([⟨[], [f.parts.getD 0 zal]⟩], true)
 else if r = 4 then ([⟨[f.parts.getD 0 zal], []⟩], true)
 else if r = 5 then ([⟨f.parts, []⟩], true)
 else if r = 6 then ([⟨[], [f.parts.getD 0 zal]⟩, ⟨[], [f.parts.getD 1 zal]⟩], true)
 else if r = 7 then ([⟨[f.parts.getD 0 zal], []⟩, ⟨[f.parts.getD 1 zal], []⟩], true)
 else if r = 8 then ([⟨[], f.parts⟩], true)
 else if r = 9 then ([⟨[], [f.parts.getD 0 zal]⟩, ⟨[f.parts.getD 1 zal], []⟩], true)
 else ([⟨[f.parts.getD 0 zal], [f.parts.getD 1 zal]⟩], true)
noncomputable def adR (s : Sq) (d : Dv) : List Sq × Bool :=
 if d.rule = 15 then (if (d.main == 0 && d.term.none && d.cut.good) = true then ([⟨[], [d.cut]⟩, ⟨[d.cut], []⟩], true) else ([], false))
 else if (inB d.rule 1 15 && same d.cut zal && (inB d.rule 11 14 == !d.term.none) && zbp s d) = true then (if inB d.rule 11 14 = true then zi3 s d (zb3 s d) else zb6 s d.rule (zb3 s d))
 else ([], false)
def zfb (d : Dv) (left : Bool) : Int := if (!(d.rule == 15) && !qeb d.rule && (onL d.rule == left)) = true then d.main else -1
def ze0 (s : Sq) (d : Dv) (x : Sq) : Sq := ⟨zem s.left (zfb d true) ++ x.left, zem s.right (zfb d false) ++ x.right⟩
noncomputable def qS (s : Sq) (d : Dv) (f : Fm) : List Sq × Bool :=
  if (d.term.good && (zc1 f.var d.term (f.parts.getD 0 zal)).2) = true then
    (if d.rule = 11 then ([zbg s (-1) [(zc1 f.var d.term (f.parts.getD 0 zal)).1] (-1) []], true)
     else if d.rule = 14 then ([zbg s (-1) [] (-1) [(zc1 f.var d.term (f.parts.getD 0 zal)).1]], true)
     else if (!zbi d.term.name || zfg s d.term.name) = true then ([], false)
     else if d.rule = 12 then ([zbg s (-1) [] d.main [(zc1 f.var d.term (f.parts.getD 0 zal)).1]], true)
     else ([zbg s d.main [(zc1 f.var d.term (f.parts.getD 0 zal)).1] (-1) []], true))
  else ([], false)
noncomputable def ruS (s : Sq) (d : Dv) : List Sq × Bool :=
 if ((!inB d.rule 11 14 && !d.term.none) || (!(d.rule == 15) && !same d.cut zal)) = true then ([], false)
 else if d.rule = 15 then ([zbg s (-1) [] (-1) [d.cut], zbg s (-1) [d.cut] (-1) []], d.main == 0 && d.cut.good)
 else if (inB d.rule 1 15 && zbp s d) = true then (if inB d.rule 11 14 = true then qS s d (zb3 s d) else ((zb6 s d.rule (zb3 s d)).1.map (ze0 s d), (zb6 s d.rule (zb3 s d)).2))
 else ([], false)
theorem zoq {s : Sq} {d : Dv} (h : zbp s d = true) : d.main.toNat < (zbw s d.rule).length /\ 0 <= d.main /\ zb3 s d ∈ zbw s d.rule := by
 unfold zbp inB at h
 simp only [Bool.and_eq_true, decide_eq_true_eq] at h
 obtain ⟨⟨h1, h2⟩, _⟩ := h
 have h3 : d.main.toNat < (zbw s d.rule).length := by omega
 refine ⟨h3, h1, ?_⟩
 unfold zb3
 rw [List.getD, List.getElem?_eq_getElem h3]
 exact List.getElem_mem h3
theorem zh9 {s : Sq} (h : s.good = true) (r : Int) {x : Fm} (hx : x ∈ zbw s r) : x.good = true := by
 unfold Sq.good zet at h
 simp only [Bool.and_eq_true, List.all_eq_true] at h
 unfold zbw at hx
 split at hx
 ·exact h.1.2 x hx
 ·exact h.2.2 x hx
theorem zkf {f : Fm} (hf : f.good = true) (ho : f.op = 8 \/ f.op = 9) : (f.parts.getD 0 zal).good = true /\ f.parts = [f.parts.getD 0 zal] /\ zbi f.var = true := by
 have hF := ze4 hf
 have hh : f.here = true := by rw [Fm.forms_eq, Bool.and_eq_true] at hF; exact hF.1
 have hv := zx4 hh (by unfold isQ; rcases ho with h | h <;> rw [h] <;> rfl)
 have h0 : f.parts = [f.parts.getD 0 zal] /\ f.parts.getD 0 zal ∈ f.parts := by
  rcases zd3 hF with ⟨h1, h2⟩ | ⟨p, h1, _⟩ | ⟨o', p, q, h2, h1, _⟩ | ⟨o', v', p, _, h1, _⟩
  ·exfalso; omega
  ·exfalso; rw [h1] at ho; rcases ho with h | h <;> cases h
  ·exfalso; rw [h1] at ho; have : (mkF o' [p, q]).op = o' := rfl; omega
  ·rw [h1]
   exact ⟨rfl, List.mem_singleton.2 rfl⟩
 refine ⟨?_, h0.1, hv⟩
 have h3 := zqt hF _ h0.2
 have h4 := zvu h0.2
 unfold Fm.good at hf ⊢
 rw [Bool.and_eq_true, decide_eq_true_eq] at hf ⊢
 exact ⟨by omega, h3⟩
theorem zfe {s : Sq} (hs : s.good = true) : s.left.length <= 10 /\ s.right.length <= 10 /\ (∀ x ∈ s.left, x.good = true) /\ ∀ x ∈ s.right, x.good = true := by
 unfold Sq.good zet at hs
 simp only [Bool.and_eq_true, decide_eq_true_eq, List.all_eq_true] at hs
 exact ⟨hs.1.1, hs.2.1, hs.1.2, hs.2.2⟩
theorem zf2 {f : Fm} (hf : f.good = true) (ho : f.op = 4) : ∃ p, f.parts = [p] := by
 rcases zd3 (ze4 hf) with ⟨h1, h2⟩ | ⟨p, h1, _⟩ | ⟨o', p, q, h2, h1, _⟩ | ⟨o', v', p, h2, h1, _⟩
 ·exfalso; omega
 ·exact ⟨p, by rw [h1]; rfl⟩
 ·exfalso; rw [h1] at ho; have : (mkF o' [p, q]).op = o' := rfl; omega
 ·exfalso; rw [h1] at ho; have : (Fm.mk o' (.mk [] []) v' [p]).op = o' := rfl; omega
theorem zbs {f : Fm} (hf : f.good = true) (ho : f.op = 5 \/ f.op = 6 \/ f.op = 7) : ∃ p q, f.parts = [p, q] := by
 rcases zd3 (ze4 hf) with ⟨h1, h2⟩ | ⟨p, h1, _⟩ | ⟨o', p, q, h2, h1, _⟩ | ⟨o', v', p, h2, h1, _⟩
 ·exfalso; omega
 ·exfalso; rw [h1] at ho; have : (mkF 4 [p]).op = 4 := rfl; omega
 ·exact ⟨p, q, by rw [h1]; rfl⟩
 ·exfalso; rw [h1] at ho; have : (Fm.mk o' (.mk [] []) v' [p]).op = o' := rfl; omega
theorem qjk {s : Sq} {d : Dv} (h : zbp s d = true) : opL d.rule = 0 \/ (zb3 s d).op = opL d.rule := by
 unfold zbp at h
 rw [Bool.and_eq_true, Bool.or_eq_true, beq_iff_eq, beq_iff_eq] at h
 exact h.2
end Go.Proofs.YtemnhgmgeijkcaaGreat
namespace Go.Proofs.YtemnhgmgeijkcaaGreat
set_option linter.unusedSimpArgs false
set_option linter.unusedVariables false
set_option linter.unusedSectionVars false
set_option maxRecDepth 4000
open Go.RowKit
theorem zor (xs more : List Fm) (g : Int) (hx : ∀ x ∈ xs, x.wt <= 1048576) (hm : ∀ x ∈ more, x.wt <= 1048576) (hl : xs.length + more.length <= 1048576) : FC Tryz.prog 218 [.one (fmS xs), iD g, .one (fmS more)] [.one (fmS (zem xs g ++ more))] := by
 refine zah Tryz.call218 Tryz.func218 rfl (by kernel_rfl) (zat (by kernel_rfl)) ?_
 simp -implicitDefEqProofs only [go_sem, Tryz.results218]
 refine zaj (by simp -implicitDefEqProofs only [go_sem]) ?_
 simp -implicitDefEqProofs only [go_sem]
 refine zaf (fun k : Nat => hd [(0, vT (fmS xs)), (1, vI g), (2, vT (fmS more)), (7, .one (.ow 320 (zfl xs g k).length)), (8, vI k)] [] [(320, ⟨true, 5, (zfl xs g k).map fmC, (zfl xs g k).length, true⟩)]) (fun k => k <= xs.length) (fun k => xs.length - k) 0 (zac ?_) (Nat.zero_le _) ?_
 ·simp -implicitDefEqProofs only [go_sem, zlq]
 ·intro k hk
  have hul := zpa xs g k
  have hul2 : (zfl xs g k).length <= 4294967295 := by omega
  by_cases hlt : k < xs.length
  ·have hs := zid xs g hlt
   have HO := zrj xs[k] (hx _ (List.getElem_mem hlt))
   cases hb : ((k : Int) == g)
   ·rw [hb, if_neg (by simp)] at hs
    have hne : ((k : Int) != g) = true := by unfold bne; rw [hb]; rfl
    simp -implicitDefEqProofs only [go_sem, zad, hlt, hne, zaa xs[k]]
    refine callF (HO) (by simp -implicitDefEqProofs only [go_sem, zaa]) ?_
    simp -implicitDefEqProofs only [go_sem, zaa]
    refine zaj (by simp -implicitDefEqProofs only [go_sem]) ?_
    simp -implicitDefEqProofs only [go_sem]
    refine apD true (by simp -implicitDefEqProofs only [go_sem, ne_eq, List.length_map, hul2]) ?_
    simp -implicitDefEqProofs only [go_sem, ne_eq, List.length_map, hul2]
    refine ⟨k + 1, hlt, by omega, zac ?_⟩
    simp -implicitDefEqProofs only [go_sem]
    rw [zav (by omega), hs, List.length_append, List.length_singleton, List.map_append, List.map_singleton, zaa xs[k]]
    exact ⟨rfl, rfl⟩
   ·rw [hb, if_pos rfl, List.append_nil] at hs
    have hne : ((k : Int) != g) = false := by unfold bne; rw [hb]; rfl
    simp -implicitDefEqProofs only [go_sem, hlt, hne]
    refine ⟨k + 1, hlt, by omega, zac ?_⟩
    simp -implicitDefEqProofs only [go_sem]
    rw [zav (by omega), hs]
    exact ⟨rfl, rfl⟩
  ·have hkn : k = xs.length := by omega
   subst hkn
   have hD : zfl xs g xs.length = zem xs g := rfl
   rw [hD] at hul ⊢
   generalize zem xs g = ys at hul ⊢
   simp -implicitDefEqProofs only [go_sem, hlt]
   refine zaf (fun k : Nat => hd [(2, vT (fmS more)), (7, .one (.ow 320 (ys.length + k))), (9, vI k)] [] [(320, ⟨true, 5, ys.map fmC ++ (more.take k).map fmC, ys.length + k, true⟩)]) (fun k => k <= more.length) (fun k => more.length - k) 0 (zac ?_) (Nat.zero_le _) ?_
   ·simp -implicitDefEqProofs only [go_sem, List.take_zero, List.map_nil, List.append_nil]
   ·intro k hk
    by_cases hlt : k < more.length
    ·have HO := zrj more[k] (hm _ (List.getElem_mem hlt))
     have hmin : ys.length + min k more.length <= 4294967295 := by omega
     simp -implicitDefEqProofs only [go_sem, zad, hlt, zaa more[k]]
     refine callF (HO) (by simp -implicitDefEqProofs only [go_sem, zaa]) ?_
     simp -implicitDefEqProofs only [go_sem, zaa]
     refine zaj (by simp -implicitDefEqProofs only [go_sem]) ?_
     simp -implicitDefEqProofs only [go_sem]
     refine apD true (by simp -implicitDefEqProofs only [go_sem, ne_eq, List.length_map, List.length_append, List.length_take, hmin]) ?_
     simp -implicitDefEqProofs only [go_sem, ne_eq, List.length_map, List.length_append, List.length_take, hmin]
     refine ⟨k + 1, hlt, by omega, zac ?_⟩
     simp -implicitDefEqProofs only [go_sem]
     rw [zav (by omega), List.take_succ_eq_append_getElem hlt, List.map_append, List.map_singleton, zaa more[k], List.append_assoc]
     exact ⟨rfl, rfl⟩
    ·have ht : more.take k = more := List.take_of_length_le (by omega)
     simp -implicitDefEqProofs only [go_sem, hlt, ht]
     rw [List.map_append]
theorem zzh (s : Sq) (l r : Int) (more extra : List Fm) (hx : ∀ x ∈ s.left, x.wt <= 1048576) (hy : ∀ x ∈ s.right, x.wt <= 1048576) (hm : ∀ x ∈ more, x.wt <= 1048576) (he : ∀ x ∈ extra, x.wt <= 1048576) (hl : s.left.length + more.length <= 1048576) (hl2 : s.right.length + extra.length <= 1048576) : FC Tryz.prog 149 [sqD s, iD l, .one (fmS more), iD r, .one (fmS extra)] [sqD (zbg s l more r extra)] := by
 have H1 := zor s.left more l hx hm hl
 have H2 := zor s.right extra r hy he hl2
 unfold zbg
 simp only [sqD, zak]
 refine zah Tryz.call149 Tryz.func149 rfl (by kernel_rfl) (zat (by kernel_rfl)) ?_
 simp -implicitDefEqProofs only [go_sem, Tryz.results149]
 refine drawn (by kernel_rfl) ?_
 simp -implicitDefEqProofs only [go_sem]
 refine zan (H1) (by simp -implicitDefEqProofs only [go_sem]) ?_
 simp -implicitDefEqProofs only [go_sem]
 refine zan (H2) (by simp -implicitDefEqProofs only [go_sem]) ?_
 simp -implicitDefEqProofs only [go_sem]
 kernel_rfl
theorem onL_c (r : Int) : FC Tryz.prog 197 [iD r] [bD (onL r)] := by
 unfold onL
 cases h1 : (r == 1)
 ·cases h3 : (r == 3)
  ·cases h5 : (r == 5)
   ·cases h7 : (r == 7)
    ·cases h9 : (r == 9)
     ·cases h11 : (r == 11)
      ·cases h13 : (r == 13)
       ·refine zah Tryz.call197 Tryz.func197 rfl (by kernel_rfl) (zat (by kernel_rfl)) ?_
        simp -implicitDefEqProofs only [go_sem, Tryz.results197, h1, h3, h5, h7, h9, h11, h13]
        rfl
       ·refine zah Tryz.call197 Tryz.func197 rfl (by kernel_rfl) (zat (by kernel_rfl)) ?_
        simp -implicitDefEqProofs only [go_sem, Tryz.results197, h1, h3, h5, h7, h9, h11, h13]
        rfl
      ·refine zah Tryz.call197 Tryz.func197 rfl (by kernel_rfl) (zat (by kernel_rfl)) ?_
       simp -implicitDefEqProofs only [go_sem, Tryz.results197, h1, h3, h5, h7, h9, h11]
       rfl
     ·refine zah Tryz.call197 Tryz.func197 rfl (by kernel_rfl) (zat (by kernel_rfl)) ?_
      simp -implicitDefEqProofs only [go_sem, Tryz.results197, h1, h3, h5, h7, h9]
      rfl
    ·refine zah Tryz.call197 Tryz.func197 rfl (by kernel_rfl) (zat (by kernel_rfl)) ?_
     simp -implicitDefEqProofs only [go_sem, Tryz.results197, h1, h3, h5, h7]
     rfl
   ·refine zah Tryz.call197 Tryz.func197 rfl (by kernel_rfl) (zat (by kernel_rfl)) ?_
    simp -implicitDefEqProofs only [go_sem, Tryz.results197, h1, h3, h5]
    rfl
  ·refine zah Tryz.call197 Tryz.func197 rfl (by kernel_rfl) (zat (by kernel_rfl)) ?_
   simp -implicitDefEqProofs only [go_sem, Tryz.results197, h1, h3]
   rfl
 ·refine zah Tryz.call197 Tryz.func197 rfl (by kernel_rfl) (zat (by kernel_rfl)) ?_
  simp -implicitDefEqProofs only [go_sem, Tryz.results197, h1]
  rfl
theorem qav {r : Int} (h : 1 <= r /\ r <= 14) : r = 1 \/ r = 2 \/ r = 3 \/ r = 4 \/ r = 5 \/ r = 6 \/ r = 7 \/ r = 8 \/ r = 9 \/ r = 10 \/ r = 11 \/ r = 12 \/ r = 13 \/ r = 14 := by omega
set_option maxHeartbeats 8000000 in
theorem qi0 (r : Int) (h : 1 <= r /\ r <= 14) : FC Tryz.prog 199 [iD r] [iD (opL r)] := by
 rcases qav h with rfl | rfl | rfl | rfl | rfl | rfl | rfl | rfl | rfl | rfl | rfl | rfl | rfl | rfl <;>
 ·refine zah Tryz.call199 Tryz.func199 rfl (by kernel_rfl) (zat (by kernel_rfl)) ?_
  simp -implicitDefEqProofs only [go_sem, Tryz.results199]
  rfl
set_option maxHeartbeats 8000000 in
theorem zmd (r : Int) (h : 1 <= r /\ r <= 14) : FC Tryz.prog 268 [iD r] [bD (onL r), iD (opL r)] := by
 rcases qav h with rfl | rfl | rfl | rfl | rfl | rfl | rfl | rfl | rfl | rfl | rfl | rfl | rfl | rfl <;>
 ·refine zah Tryz.call268 Tryz.func268 rfl (by kernel_rfl) (zat (by kernel_rfl)) ?_
  simp -implicitDefEqProofs only [go_sem, Tryz.results268]
  exact ⟨rfl, rfl⟩
theorem zhp (r : Int) : FC Tryz.prog 269 [iD r] [bD (qeb r)] := by
 unfold qeb
 cases h : (r == 11)
 ·refine zah Tryz.call269 Tryz.func269 rfl (by kernel_rfl) (zat (by kernel_rfl)) ?_
  simp -implicitDefEqProofs only [go_sem, Tryz.results269, h]
  rfl
 ·refine zah Tryz.call269 Tryz.func269 rfl (by kernel_rfl) (zat (by kernel_rfl)) ?_
  simp -implicitDefEqProofs only [go_sem, Tryz.results269, h]
  rfl
theorem zay (r : Int) : FC Tryz.prog 206 [iD r] [bD (inB r 11 14)] := by
 have H := zbz r 11 14
 refine zah Tryz.call206 Tryz.func206 rfl (by kernel_rfl) (zat (by kernel_rfl)) ?_
 simp -implicitDefEqProofs only [go_sem, Tryz.results206]
 refine callF (H) (by simp -implicitDefEqProofs only [go_sem]) ?_
 simp -implicitDefEqProofs only [go_sem]
theorem zmg (xs : List Fm) (f : Fm) : FC Tryz.prog 198 [.one (fmS xs), fmD f] [bD (xs.any fun g => same f g)] := by
 refine zdx (fun hw => ?_) Tryz.call198
 have hl : xs.length <= 9223372036854775807 := by simpa [zhb, wfT] using hw.1.1
 have HS := fun g : Fm => zji g f
 simp only [fmD, zaa f] at HS ⊢
 refine zah Tryz.call198 Tryz.func198 rfl (by kernel_rfl) (zat (by kernel_rfl)) ?_
 simp -implicitDefEqProofs only [go_sem, Tryz.results198]
 refine zaf (fun k : Nat => hd [(0, vT (fmS xs)), (3, .one (.bx 3 0)), (5, vI k)] [(3, [.t (.int .i64 f.op), .t (.str f.atom.name), .t (tmS f.atom.args), .t (.str f.var), .t (fmS f.parts)])] []) (fun k => k <= xs.length /\ (xs.any fun g => same f g) = ((xs.drop k).any fun g => same f g)) (fun k => xs.length - k) 0 (zac ?_) ?_ ?_
 ·simp -implicitDefEqProofs only [go_sem]
 ·exact ⟨Nat.zero_le _, by rw [List.drop_zero]⟩
 ·intro k ⟨hk, hr⟩
  by_cases hlt : k < xs.length
  ·have H := HS xs[k]
   simp only [zaa xs[k]] at H
   rw [List.drop_eq_getElem_cons hlt, List.any_cons, zyz] at hr
   simp -implicitDefEqProofs only [go_sem, hlt]
   refine drawn (by kernel_rfl) ?_
   simp -implicitDefEqProofs only [go_sem, zad, hlt, zaa xs[k]]
   refine zan (H) (by simp -implicitDefEqProofs only [go_sem]) ?_
   simp -implicitDefEqProofs only [go_sem]
   refine ⟨by kernel_rfl, fun h => ?_, fun h => ?_⟩
   ·rw [show same xs[k] f = true by simpa using h, Bool.true_or] at hr
    rw [hr]
   ·rw [show same xs[k] f = false by simpa using h, Bool.false_or] at hr
    rw [zav (by omega)]
    exact ⟨k + 1, ⟨hlt, hr⟩, by omega, zac (by simp -implicitDefEqProofs only [go_sem])⟩
  ·rw [List.drop_of_length_le (by omega)] at hr
   rw [hr]
   simp -implicitDefEqProofs only [go_sem, hlt]
   rfl
def vfs (xs : List Fm) : List Str := (xs.map fun x => vf x []).flatten
theorem zur (xs : List Fm) {k : Nat} (h : k < xs.length) : vfs (xs.take (k + 1)) = vfs (xs.take k) ++ vf xs[k] [] := by
 unfold vfs
 rw [List.take_succ_eq_append_getElem h, List.map_append, List.flatten_append]; simp
theorem zl3 {xs : List Fm} (hg : ∀ x ∈ xs, x.good = true) : (vfs xs).length <= 42000 * xs.length := by
 induction xs with
 | nil => exact Nat.le_refl _
 | cons x xs ih =>
  have h1 := ih fun y hy => hg y (by simp [hy])
  have h2 := zt3 x []
  have h3 := zd5 x
  have h4 := zcx (hg x (by simp))
  have e : vfs (x :: xs) = vf x [] ++ vfs xs := rfl
  rw [e, List.length_append, List.length_cons]
  omega
theorem zy4 (xs : List Fm) (n : Str) : (vfs xs).contains n = xs.any fun f => (zba [] (vf f [])).contains n := by
 induction xs with
 | nil => rfl
 | cons x xs ih =>
  have e : vfs (x :: xs) = vf x [] ++ vfs xs := rfl
  rw [e, List.any_cons, <- ih, zpb, Bool.eq_iff_iff, Bool.or_eq_true, List.contains_iff_mem, List.contains_iff_mem, List.contains_iff_mem, List.mem_append]
set_option maxHeartbeats 1000000 in
theorem zv8 (s : Sq) (hs : s.good = true) : FC Tryz.prog 266 [sqD s] [.one (zcj (zba (zba [] (vfs s.left)) (vfs s.right)))] := by
 unfold Sq.good zet at hs
 simp only [Bool.and_eq_true, decide_eq_true_eq, List.all_eq_true] at hs
 obtain ⟨⟨l1, g1⟩, l2, g2⟩ := hs
 have hL := zl3 g1
 have hR := zl3 g2
 have hI := fun (x : Fm) (hx : x.good = true) (ys : List Str) (hy : ys.length <= 1000000) => ztu x (ze4 hx) (Nat.le_trans (zcx hx) (by omega)) ys [] (by have := zt3 x []; have := zd5 x; have := zcx hx; omega) (by have := zd5 x; have := zcx hx; simp only [List.length_nil]; omega)
 simp only [sqD, zak]
 refine zgf Tryz.call266 Tryz.func266 rfl (by kernel_rfl) (zat (by kernel_rfl)) ?_
 simp -implicitDefEqProofs only [go_sem, Tryz.results266]
 refine zaj (by simp -implicitDefEqProofs only [go_sem]) ?_
 simp -implicitDefEqProofs only [go_sem]
 refine zaf (fun k : Nat => hd [(1, .one (.bx 1 0)), (3, .one (.ow 192 0)), (4, vI k)] [(1, [.rn (fmS s.left), .rn (fmS s.right)])] [(192, ⟨true, 1, (zba [] (vfs (s.left.take k))).map fun s => [.str s], 0, true⟩)]) (fun k => k <= s.left.length) (fun k => s.left.length - k) 0 (zac ?_) (Nat.zero_le _) ?_
 ·simp -implicitDefEqProofs only [go_sem]
  rfl
 ·intro k hk
  by_cases hlt : k < s.left.length
  ·have hx := g1 _ (List.getElem_mem hlt)
   have h3 : (zba [] (vfs (s.left.take k))).length <= 1000000 := by
    have h4 := zco (vfs (s.left.take k)) []
    have h5 := zl3 (xs := s.left.take k) fun x h => g1 x (List.mem_of_mem_take h)
    rw [List.length_take] at h5
    simp only [List.length_nil] at h4
    omega
   have HC := hI _ hx _ h3
   rw [<- zer, <- zur _ hlt] at HC
   simp only [fmD, zaa s.left[k]] at HC
   simp -implicitDefEqProofs only [go_sem, zad, hlt, zaa s.left[k]]
   refine zaj (by simp -implicitDefEqProofs only [go_sem]) ?_
   simp -implicitDefEqProofs only [go_sem]
   refine qdd 640 rfl rfl ?_
   simp -implicitDefEqProofs only [go_sem]
   refine zdi [1, 4] [14, 19, 20] [] (HC) (by simp -implicitDefEqProofs only [go_sem, zcj, List.map_nil]) (by simp -implicitDefEqProofs only [go_sem, zcj, List.map_nil]) (by simp -implicitDefEqProofs only [go_sem, zcj, List.map_nil]) (by simp -implicitDefEqProofs only [go_sem, zcj, List.map_nil]) ?_
   simp -implicitDefEqProofs only [go_sem, zcj, List.map_nil]
   refine ⟨k + 1, hlt, by omega, zc4 192 672 ?_⟩
   simp -implicitDefEqProofs only [go_sem]
   rw [zav (by omega)]
  ·have ht : s.left.take k = s.left := List.take_of_length_le (by omega)
   rw [ht]
   have h6 : (zba [] (vfs s.left)).length <= 500000 := by
    have h4 := zco (vfs s.left) []
    simp only [List.length_nil] at h4
    omega
   generalize zba [] (vfs s.left) = P at h6 ⊢
   simp -implicitDefEqProofs only [go_sem, hlt]
   refine zaf (fun k : Nat => hd [(1, .one (.bx 1 0)), (3, .one (.ow 192 0)), (5, vI k)] [(1, [.rn (fmS s.left), .rn (fmS s.right)])] [(192, ⟨true, 1, (zba P (vfs (s.right.take k))).map fun s => [.str s], 0, true⟩)]) (fun k => k <= s.right.length) (fun k => s.right.length - k) 0 (zac ?_) (Nat.zero_le _) ?_
   ·simp -implicitDefEqProofs only [go_sem]
    rfl
   ·intro k hk
    by_cases hlt : k < s.right.length
    ·have hx := g2 _ (List.getElem_mem hlt)
     have h3 : (zba P (vfs (s.right.take k))).length <= 1000000 := by
      have h4 := zco (vfs (s.right.take k)) P
      have h5 := zl3 (xs := s.right.take k) fun x h => g2 x (List.mem_of_mem_take h)
      rw [List.length_take] at h5
      omega
     have HC := hI _ hx _ h3
     rw [<- zer, <- zur _ hlt] at HC
     simp only [fmD, zaa s.right[k]] at HC
     simp -implicitDefEqProofs only [go_sem, zad, hlt, zaa s.right[k]]
     refine zaj (by simp -implicitDefEqProofs only [go_sem]) ?_
     simp -implicitDefEqProofs only [go_sem]
     refine qdd 1120 rfl rfl ?_
     simp -implicitDefEqProofs only [go_sem]
     refine zdi [1, 5] [29, 34, 35] [] (HC) (by simp -implicitDefEqProofs only [go_sem, zcj, List.map_nil]) (by simp -implicitDefEqProofs only [go_sem, zcj, List.map_nil]) (by simp -implicitDefEqProofs only [go_sem, zcj, List.map_nil]) (by simp -implicitDefEqProofs only [go_sem, zcj, List.map_nil]) ?_
     simp -implicitDefEqProofs only [go_sem, zcj, List.map_nil]
     refine ⟨k + 1, hlt, by omega, zc4 192 1152 ?_⟩
     simp -implicitDefEqProofs only [go_sem]
     rw [zav (by omega)]
    ·have ht : s.right.take k = s.right := List.take_of_length_le (by omega)
     rw [ht]
     simp -implicitDefEqProofs only [go_sem, hlt]
theorem zvs (s : Sq) (n : Str) : (zba (zba [] (vfs s.left)) (vfs s.right)).contains n = zfg s n := by
 unfold zfg
 rw [<- zy4, <- zy4, Bool.eq_iff_iff, Bool.or_eq_true, List.contains_iff_mem, List.contains_iff_mem, List.contains_iff_mem, zfj, zfj]
 constructor
 ·rintro (h | h | h)
  ·exact Or.inr h
  ·exact Or.inl h
  ·cases h
 ·rintro (h | h)
  ·exact Or.inr (Or.inl h)
  ·exact Or.inl h
end Go.Proofs.YtemnhgmgeijkcaaGreat
