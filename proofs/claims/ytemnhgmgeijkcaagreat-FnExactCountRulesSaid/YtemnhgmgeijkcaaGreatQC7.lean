/-
  The walk over plain data, and contracts of functions of the program and of its laws.
  Conditions: those that each theorem names.
-/
import Derived.Test.YtemnhgmgeijkcaaGreatQC6
import Derived.Test.YtemnhgmgeijkcaaGreatQC4
import Derived.RangeFuncNested
import Derived.RangeFuncBound
import Derived.RangeFuncCalls
import Derived.TacticsInMore
import Derived.LoopNIn
import Derived.LoopIn
import Derived.Test.YtemnhgmgeijkcaaGreatQC5
import Derived.MapKept
import Derived.Lib.Walk
import Derived.Lib.SliceRun
import Derived.Lib.AppendZeros
namespace Go.Proofs.YtemnhgmgeijkcaaGreat
set_option linter.unusedSimpArgs false
set_option linter.unusedVariables false
set_option linter.unusedSectionVars false
set_option maxRecDepth 4000
open Go.RowKit
theorem zyl (n : Str) (t : Tm) (x : Str) : FC Tryz.prog 239 [.agg [sbS [(n, t)]], sD x] [iD (if (n == x) = true then 0 else -1)] := by
 have hS : sbS [(n, t)] = .sl 3 [[.str n, .str t.name, .sl 2 (t.args.map tmC)]] := by unfold sbS; rw [List.map_singleton, zh6]
 rw [hS]
 refine zag Tryz.call239 Tryz.func239 rfl (by kernel_rfl) (zau (by kernel_rfl)) ?_
 simp -implicitDefEqProofs only [go_sem, Tryz.results239]
 refine zad (fun k : Nat => hd [(1, vT (.str x)), (2, .one (.bx 2 0)), (5, vI k)] [(2, [.t (.sl 3 [[.str n, .str t.name, .sl 2 (t.args.map tmC)]])])] []) (fun k => k = 0 \/ (k = 1 /\ (n == x) = false)) (fun k => 1 - k) 0 (zac ?_) (Or.inl rfl) ?_
 ·simp -implicitDefEqProofs only [go_sem]
 ·rintro k (rfl | ⟨rfl, hn⟩)
  ·cases hn : n == x
   ·simp -implicitDefEqProofs only [go_sem, hn]
    refine ⟨1, Or.inr rfl, by decide, zac ?_⟩
    have hz : IntKind.i64.wrap 1 = 1 := by decide
    simp -implicitDefEqProofs only [go_sem, hz]
   ·simp -implicitDefEqProofs only [go_sem, hn]
  ·simp -implicitDefEqProofs only [go_sem, hn]
theorem zzo (n : Str) (t : Tm) (ht : t.wt <= 1048576) (hn : (t.name == n) = false) : FC Tryz.prog 176 [.agg [sbS []], sD n, tmD t] [.agg [sbS [(n, t)]]] := by
 have hS : sbS [(n, t)] = .sl 3 [[.str n, .str t.name, .sl 2 (t.args.map tmC)]] := by unfold sbS; rw [List.map_singleton, zh6]
 have hS0 : sbS [] = .sl 3 [] := rfl
 have HK := zr9 t ht
 rw [hS, hS0]
 simp only [tmD, zab t] at HK ⊢
 refine zg1 Tryz.call176 Tryz.func176 rfl (by kernel_rfl) (zau (by kernel_rfl)) ?_
 simp -implicitDefEqProofs only [go_sem, Tryz.results176, hn]
 refine zad (fun k : Nat => hd [(1, vT (.str n)), (3, .one (.bx 3 0)), (5, .one (.bx 5 0)), (6, .one (.bx 6 0)), (7, vI (0 : Nat))] [(3, [.rn (.sl 3 [])]), (5, [.t (.str t.name), .rn (.sl 2 (t.args.map tmC))]), (6, [.nl 3])] []) (fun k => k = 0) (fun k => 0) 0 (zac ?_) rfl ?_
 ·simp -implicitDefEqProofs only [go_sem]
 ·rintro k rfl
  simp -implicitDefEqProofs only [go_sem]
  refine zal (by simp -implicitDefEqProofs only [go_sem]) ?_
  simp -implicitDefEqProofs only [go_sem]
  refine apD true (by simp -implicitDefEqProofs only [go_sem, ne_eq]) ?_
  simp -implicitDefEqProofs only [go_sem, ne_eq]
  refine callF (HK) (by simp -implicitDefEqProofs only [go_sem]) ?_
  simp -implicitDefEqProofs only [go_sem]
  refine zal (by simp -implicitDefEqProofs only [go_sem]) ?_
  simp -implicitDefEqProofs only [go_sem]
  refine apD true (by simp -implicitDefEqProofs only [go_sem, ne_eq]) ?_
  simp -implicitDefEqProofs only [go_sem, ne_eq]
  refine apD true (by simp -implicitDefEqProofs only [go_sem, ne_eq]) ?_
  simp -implicitDefEqProofs only [go_sem, ne_eq]
theorem zx3 (n : Str) (t : Tm) (hn : (t.name == n) = true) : RC Tryz.prog 176 [.agg [sbS []], sD n, tmD t] [.agg [sbS []]] := by
 have hS0 : sbS [] = .sl 3 [] := rfl
 rw [hS0]
 simp only [tmD, zab t]
 refine RC_of Tryz.call176 Tryz.func176 rfl (by kernel_rfl) (zau (by kernel_rfl)) ?_
 simp -implicitDefEqProofs only [go_sem, Tryz.results176, hn]
def zfz (l : List (Str × Tm)) : Tm -> Tm := Tm.fold fun m _ rs => if zbc m = true then (match l.find? fun p => p.1 == m with | some p => p.2 | none => .mk m []) else .mk m rs
theorem zof (l : List (Str × Tm)) (a : Tm) : zfz l a = if zbc a.name = true then (match l.find? fun p => p.1 == a.name with | some p => p.2 | none => .mk a.name []) else .mk a.name (a.args.map (zfz l)) := by unfold zfz; rw [Tm.fold_eq]
theorem zte (x : Str) : FC Tryz.prog 239 [.agg [sbS []], sD x] [iD (-1)] := by
 have hS : sbS [] = .sl 3 [] := rfl
 rw [hS]
 refine zag Tryz.call239 Tryz.func239 rfl (by kernel_rfl) (zau (by kernel_rfl)) ?_
 simp -implicitDefEqProofs only [go_sem, Tryz.results239]
 refine zad (fun k : Nat => hd [(1, vT (.str x)), (2, .one (.bx 2 0)), (5, vI (0 : Nat))] [(2, [.t (.sl 3 [])])] []) (fun k => k = 0) (fun k => 0) 0 (zac ?_) rfl ?_
 ·simp -implicitDefEqProofs only [go_sem]
 ·rintro k rfl
  simp -implicitDefEqProofs only [go_sem]
theorem zxd (l : List (Str × Tm)) (hl : l.length <= 1) (hw : ∀ p ∈ l, p.2.wt <= 1048576) (a : Tm) (ha : a.args.length <= 1048576) (H : ∀ x ∈ a.args, FC Tryz.prog 175 [.agg [sbS l], tmD x] [tmD (zfz l x)]) : FC Tryz.prog 175 [.agg [sbS l], tmD a] [tmD (zfz l a)] := by
 have hv := zof l a
 have HV := zi2 a.name
 cases hva : zbc a.name
 ·rw [hva, if_neg (by simp)] at hv
  rw [hva] at HV
  rw [hv]
  have e1 : tmD (.mk a.name (a.args.map (zfz l))) = .agg [.str a.name, .sl 2 (a.args.map fun x => tmC (zfz l x))] := by unfold tmD; rw [zab]; simp only [Tm.name, Tm.args, List.map_map, Function.comp_def]
  rw [e1]
  simp only [tmD, zab a] at H ⊢
  unfold sbS at H ⊢
  generalize l.map bnC = L at H ⊢
  refine zag Tryz.call175 Tryz.func175 rfl (by kernel_rfl) (zau (by kernel_rfl)) ?_
  simp -implicitDefEqProofs only [go_sem, Tryz.results175]
  refine callF (HV) (by simp -implicitDefEqProofs only [go_sem]) ?_
  simp -implicitDefEqProofs only [go_sem]
  refine zad (fun k : Nat => hd [(2, .one (.bx 2 0)), (3, .one (.bx 3 0)), (4, .one (.bx 4 0)), (6, .one (.bx 6 0)), (7, vI k)] [(2, [.t (.sl 3 L)]), (3, [.t (.str a.name), .t (tmS a.args)]), (4, [.t (.str []), .nl 2]), (6, [.t (.str a.name), .ow 3000 0])] [(3000, ⟨true, 2, (a.args.take k).map fun x => tmC (zfz l x), 0, true⟩)]) (fun k => k <= a.args.length) (fun k => a.args.length - k) 0 (zac ?_) (Nat.zero_le _) ?_
  ·simp -implicitDefEqProofs only [go_sem]
  ·intro k hk
   by_cases hlt : k < a.args.length
   ·have HC := H a.args[k] (List.getElem_mem hlt)
    have hmin : min k a.args.length <= 4294967295 := by omega
    simp only [zab a.args[k], zab (zfz l a.args[k])] at HC
    simp -implicitDefEqProofs only [go_sem, hlt]
    refine drawn (by kernel_rfl) ?_
    simp -implicitDefEqProofs only [go_sem, zaf, hlt, zab a.args[k]]
    refine zan (HC) (by simp -implicitDefEqProofs only [go_sem]) ?_
    simp -implicitDefEqProofs only [go_sem]
    refine zbp (by simp -implicitDefEqProofs only [go_sem]) ?_
    simp -implicitDefEqProofs only [go_sem]
    refine zpc true (by simp -implicitDefEqProofs only [go_sem, ne_eq, List.length_map, List.length_take, hmin]) ?_
    simp -implicitDefEqProofs only [go_sem, ne_eq, List.length_map, List.length_take, hmin]
    refine ⟨by kernel_rfl, k + 1, hlt, by omega, zac ?_⟩
    simp -implicitDefEqProofs only [go_sem]
    rw [zas (by omega), List.take_succ_eq_append_getElem hlt, List.map_append, List.map_singleton]
    simp only [zab]
    trivial
   ·have ht : a.args.take k = a.args := List.take_of_length_le (by omega)
    simp -implicitDefEqProofs only [go_sem, hlt, ht]
 ·rw [hva, if_pos rfl] at hv
  rw [hva] at HV
  rw [hv]
  match l, hl with
  | [], _ =>
   have HN := zte a.name
   simp only [List.find?_nil]
   have e1 : tmD (.mk a.name []) = .agg [.str a.name, .sl 2 []] := rfl
   have hS : sbS [] = .sl 3 [] := rfl
   rw [hS] at HN ⊢
   rw [e1]
   simp only [tmD, zab a]
   refine zag Tryz.call175 Tryz.func175 rfl (by kernel_rfl) (zau (by kernel_rfl)) ?_
   simp -implicitDefEqProofs only [go_sem, Tryz.results175]
   refine callF (HV) (by simp -implicitDefEqProofs only [go_sem]) ?_
   simp -implicitDefEqProofs only [go_sem]
   refine callF (HN) (by simp -implicitDefEqProofs only [go_sem]) ?_
   simp -implicitDefEqProofs only [go_sem]
  | [(n, t)], _ =>
   have HO := zyl n t a.name
   have HK := zr9 t (hw (n, t) (by simp))
   have hS : sbS [(n, t)] = .sl 3 [[.str n, .str t.name, .sl 2 (t.args.map tmC)]] := by unfold sbS; rw [List.map_singleton, zh6]
   rw [hS] at HO ⊢
   cases hn : n == a.name
   ·rw [hn] at HO
    simp only [List.find?_cons, hn, List.find?_nil]
    have e1 : tmD (.mk a.name []) = .agg [.str a.name, .sl 2 []] := rfl
    rw [e1]
    simp only [tmD, zab a]
    refine zag Tryz.call175 Tryz.func175 rfl (by kernel_rfl) (zau (by kernel_rfl)) ?_
    simp -implicitDefEqProofs only [go_sem, Tryz.results175]
    refine callF (HV) (by simp -implicitDefEqProofs only [go_sem]) ?_
    simp -implicitDefEqProofs only [go_sem]
    refine callF (HO) (by simp -implicitDefEqProofs only [go_sem]) ?_
    simp -implicitDefEqProofs only [go_sem]
   ·rw [hn] at HO
    simp only [List.find?_cons, hn]
    simp only [tmD, zab a, zab t] at HK ⊢
    refine zag Tryz.call175 Tryz.func175 rfl (by kernel_rfl) (zau (by kernel_rfl)) ?_
    simp -implicitDefEqProofs only [go_sem, Tryz.results175]
    refine callF (HV) (by simp -implicitDefEqProofs only [go_sem]) ?_
    simp -implicitDefEqProofs only [go_sem]
    refine callF (HO) (by simp -implicitDefEqProofs only [go_sem]) ?_
    simp -implicitDefEqProofs only [go_sem]
    refine callF (HK) (by simp -implicitDefEqProofs only [go_sem]) ?_
    simp -implicitDefEqProofs only [go_sem]
theorem qed (l : List (Str × Tm)) (hl : l.length <= 1) (hw : ∀ p ∈ l, p.2.wt <= 1048576) : ∀ a : Tm, a.wt <= 1048576 -> FC Tryz.prog 175 [.agg [sbS l], tmD a] [tmD (zfz l a)] :=
 zbx fun m xs ih hs => by
  obtain ⟨h1, h2⟩ := Tm.wt_args hs
  exact zxd l hl hw (.mk m xs) h1 fun x hx => ih x hx (h2 x hx)
end Go.Proofs.YtemnhgmgeijkcaaGreat
namespace Go.Proofs.YtemnhgmgeijkcaaGreat
set_option linter.unusedSimpArgs false
set_option linter.unusedVariables false
set_option linter.unusedSectionVars false
set_option maxRecDepth 4000
open Go.RowKit
def bnd (n : Str) (t : Tm) : List (Str × Tm) := if (t.name == n) = true then [] else [(n, t)]
def zoo (ps : List Fm) : List Str := match ps with
 | p :: _ => zba [] (vf p [])
 | [] => []
def zbt (n : Str) (t : Tm) : Fm -> Fm × Bool := Fm.fold fun o a v ps rs =>
 if (o == 3) = true then (.mk o (zfz (bnd n t) a) v [], (zfz (bnd n t) a).atomOk)
 else if (isQ o && (v == n || !((zoo ps).contains n))) = true then (.mk o a v ps, true)
 else if (isQ o && (zba [] (voS t)).contains v) = true then (.mk o (.mk [] []) v [], false)
 else (.mk o (.mk [] []) v ((rs.takeWhile Prod.snd).map Prod.fst), rs.all Prod.snd)
theorem qi8 {α β : Type} (p : β -> Bool) (f : α -> β) : ∀ xs : List α, (xs.map f).takeWhile p = (xs.takeWhile fun x => p (f x)).map f
 | [] => rfl
 | x :: xs => by
  simp only [List.map_cons, List.takeWhile_cons]
  cases p (f x)
  ·rfl
  ·simp only [if_true, List.map_cons, qi8 p f xs]
theorem zr2 (n : Str) (t : Tm) (f : Fm) : zbt n t f = if (f.op == 3) = true then (.mk f.op (zfz (bnd n t) f.atom) f.var [], (zfz (bnd n t) f.atom).atomOk)
  else if (isQ f.op && (f.var == n || !((zoo f.parts).contains n))) = true then (f, true)
  else if (isQ f.op && (zba [] (voS t)).contains f.var) = true then (.mk f.op (.mk [] []) f.var [], false)
  else (.mk f.op (.mk [] []) f.var ((f.parts.takeWhile fun x => (zbt n t x).2).map fun x => (zbt n t x).1), f.parts.all fun x => (zbt n t x).2) := by
 cases f with
 | mk o a v ps =>
  conv => lhs; unfold zbt; rw [Fm.fold_eq]
  simp only [qi8, List.map_map, List.all_map]
  rfl
theorem qbb {f : Fm} (h : isQ f.op = true) (hf : f.forms = true) : ∃ p, f.parts = [p] /\ p.forms = true := by
 rw [Fm.forms_eq, Bool.and_eq_true] at hf
 have h1 := hf.1
 unfold Fm.here at h1
 have h2 : (f.op == 1 || f.op == 2) = false /\ (f.op == 3) = false /\ (f.op == 4) = false /\ zop f.op = false := by
  have h8 : f.op = 8 \/ f.op = 9 := by unfold isQ at h; rw [Bool.or_eq_true, beq_iff_eq, beq_iff_eq] at h; exact h
  rcases h8 with e | e <;> rw [e] <;> decide
 rw [h2.1, h2.2.1, h2.2.2.1, h2.2.2.2, h] at h1
 simp only [Bool.false_eq_true, if_false, if_true, Bool.and_eq_true, decide_eq_true_eq] at h1
 obtain ⟨p, hp⟩ := List.length_eq_one_iff.1 h1.1.1
 exact ⟨p, hp, List.all_eq_true.1 hf.2 p (by rw [hp]; simp)⟩
theorem qk3 (n : Str) (t : Tm) : (bnd n t).length <= 1 := by unfold bnd; split <;> simp
theorem bnd_wt (n : Str) (t : Tm) (ht : t.wt <= 1048576) : ∀ p ∈ bnd n t, p.2.wt <= 1048576 := by
 unfold bnd
 split
 ·simp
 ·intro p hp; simp at hp; rw [hp]; exact ht
set_option maxHeartbeats 2000000 in
theorem qhj (n : Str) (t : Tm) (ht : t.wt <= 1048576) (f : Fm) (hf : f.forms = true) (hw : f.wt <= 1048576) (hwa : (zfz (bnd n t) f.atom).wt <= 1099511627776) (H : ∀ x ∈ f.parts, FC Tryz.prog 113 [fmD x, sD n, tmD t] [fmD (zbt n t x).1, bD (zbt n t x).2]) :
  FC Tryz.prog 113 [fmD f, sD n, tmD t] [fmD (zbt n t f).1, bD (zbt n t f).2] := by
 have hv := zr2 n t f
 have hfl : f.parts.length <= 1048576 := by have := f.wt_eq; omega
 cases h3 : f.op == 3
 ·rw [h3, if_neg (by simp)] at hv
  cases hq : isQ f.op
  ·rw [hq, Bool.false_and, if_neg (by simp), Bool.false_and, if_neg (by simp)] at hv
   have hq8 : (f.op == 8) = false /\ (f.op == 9) = false := by unfold isQ at hq; rw [Bool.or_eq_false_iff] at hq; exact hq
   simp only [fmD, zaa f, tmD, zab t]
   refine zag Tryz.call113 Tryz.func113 rfl (by kernel_rfl) (zau (by kernel_rfl)) ?_
   simp -implicitDefEqProofs only [go_sem, Tryz.results113, h3, hq8.1, hq8.2]
   refine zad (fun k : Nat => hd [(1, vT (.str n)), (3, .one (.bx 3 0)), (5, .one (.bx 5 0)), (6, .one (.bx 6 0)), (8, .one (.bx 8 0)), (9, vI k)] [(3, [.t (.int .i64 f.op), .t (.str f.atom.name), .t (tmS f.atom.args), .t (.str f.var), .t (fmS f.parts)]), (5, [.t (.str t.name), .t (tmS t.args)]), (6, [.t (.int .i64 0), .t (.str []), .nl 2, .t (.str []), .nl 5]), (8, [.t (.int .i64 f.op), .t (.str []), .nl 2, .t (.str f.var), .ow 8000 0])] [(8000, ⟨true, 5, (f.parts.take k).map fun x => fmC (zbt n t x).1, 0, true⟩)]) (fun k => k <= f.parts.length /\ ∀ x ∈ f.parts.take k, (zbt n t x).2 = true) (fun k => f.parts.length - k) 0 (zac ?_) ⟨Nat.zero_le _, by simp⟩ ?_
   ·simp -implicitDefEqProofs only [go_sem]
   ·rintro k ⟨hk, hT⟩
    by_cases hlt : k < f.parts.length
    ·have HC := H f.parts[k] (List.getElem_mem hlt)
     have hmin : min k f.parts.length <= 4294967295 := by omega
     simp only [fmD, zaa f.parts[k], zaa (zbt n t f.parts[k]).1, tmD, zab t] at HC
     cases hk2 : (zbt n t f.parts[k]).2
     ·rw [hk2] at HC
      have htw := (zda (p := fun x => (zbt n t x).2) hk hT fun _ => hk2).1
      have hall : (f.parts.all fun x => (zbt n t x).2) = false := by rw [List.all_eq_false]; exact ⟨_, List.getElem_mem hlt, by rw [hk2]; simp⟩
      rw [htw, hall] at hv
      rw [hv]
      simp -implicitDefEqProofs only [go_sem, hlt]
      refine drawn (by kernel_rfl) ?_
      simp -implicitDefEqProofs only [go_sem, zaf, hlt, zaa f.parts[k]]
      refine zan (HC) (by simp -implicitDefEqProofs only [go_sem]) ?_
      simp -implicitDefEqProofs only [go_sem]
      refine ⟨by kernel_rfl, ?_⟩
      simp -implicitDefEqProofs only [go_sem, zdl, List.map_map, Function.comp_def]
      exact ⟨rfl, rfl⟩
     ·rw [hk2] at HC
      simp -implicitDefEqProofs only [go_sem, hlt]
      refine drawn (by kernel_rfl) ?_
      simp -implicitDefEqProofs only [go_sem, zaf, hlt, zaa f.parts[k]]
      refine zan (HC) (by simp -implicitDefEqProofs only [go_sem]) ?_
      simp -implicitDefEqProofs only [go_sem]
      refine ⟨by kernel_rfl, ?_⟩
      refine zal (by simp -implicitDefEqProofs only [go_sem]) ?_
      simp -implicitDefEqProofs only [go_sem]
      refine apD true (by simp -implicitDefEqProofs only [go_sem, ne_eq, List.length_map, List.length_take, hmin]) ?_
      simp -implicitDefEqProofs only [go_sem, ne_eq, List.length_map, List.length_take, hmin]
      refine ⟨k + 1, ⟨hlt, fun x hx => ?_⟩, by omega, zac ?_⟩
      ·rw [List.take_succ_eq_append_getElem hlt] at hx
       rcases List.mem_append.1 hx with hx | hx
       ·exact hT x hx
       ·rw [List.mem_singleton] at hx; subst hx; exact hk2
      ·simp -implicitDefEqProofs only [go_sem]
       rw [zas (by omega), List.take_succ_eq_append_getElem hlt, List.map_append, List.map_singleton]
       simp only [zaa]
       trivial
    ·have htk : f.parts.take k = f.parts := List.take_of_length_le (by omega)
     rw [htk] at hT
     have hall : (f.parts.all fun x => (zbt n t x).2) = true := List.all_eq_true.2 hT
     have htw : (f.parts.takeWhile fun x => (zbt n t x).2) = f.parts := by
      have := (zda (l := f.parts) (p := fun x => (zbt n t x).2) (k := f.parts.length) (Nat.le_refl _) (by rw [List.take_length]; exact hT) fun h => absurd h (Nat.lt_irrefl _)).1
      rw [this, List.take_length]
     rw [htw, hall] at hv
     rw [hv]
     simp -implicitDefEqProofs only [go_sem, hlt, htk, zdl, List.map_map, Function.comp_def]
     exact ⟨rfl, rfl⟩
  ·obtain ⟨q, hp, hpf⟩ := qbb hq hf
   have key : (f.op == 8) = true \/ ((f.op == 8) = false /\ (f.op == 9) = true) := by
    have hq8 := hq
    unfold isQ at hq8
    cases h8 : f.op == 8
    ·rw [h8, Bool.false_or] at hq8; exact Or.inr ⟨rfl, hq8⟩
    ·exact Or.inl rfl
   have HFr := qhb q hpf (by have := f.wt_eq; rw [hp] at this; simp only [List.map_cons, List.map_nil, List.sum_cons, List.sum_nil] at this; omega)
   have HOw := zr5 f hw
   have hfr : zoo f.parts = zba [] (vf q []) := by rw [hp]; rfl
   rw [hfr] at hv
   generalize zba [] (vf q []) = V at hv HFr
   have HIn := zun V n
   have hvl := zoj t
   have HVs := zvj t (by omega) (by omega)
   generalize zba [] (voS t) = TV at hv HVs
   have HIt := zun TV f.var
   rw [hq, Bool.true_and, Bool.true_and] at hv
   have hp0 : f.parts.length = 1 := by rw [hp]; rfl
   have e0 : (List.map fmC f.parts).getD 0 [] = fmC q := by rw [hp]; rfl
   cases hvn : f.var == n
   ·rw [hvn, Bool.false_or] at hv
    cases hcn : V.contains n
    ·rw [hcn, if_pos (by simp)] at hv
     rw [hcn] at HIn
     rw [hv]
     simp only [fmD, zaa f, tmD, zab t, zaa q] at HOw HFr ⊢
     rcases key with e8 | ⟨e8, e9⟩
     ·refine zag Tryz.call113 Tryz.func113 rfl (by kernel_rfl) (zau (by kernel_rfl)) ?_
      simp -implicitDefEqProofs only [go_sem, Tryz.results113, h3, e8, hvn, hp0, e0, zaa q]
      refine callF (HFr) (by simp -implicitDefEqProofs only [go_sem]) ?_
      simp -implicitDefEqProofs only [go_sem]
      refine callF (HIn) (by simp -implicitDefEqProofs only [go_sem]) ?_
      simp -implicitDefEqProofs only [go_sem]
      refine callF (HOw) (by simp -implicitDefEqProofs only [go_sem]) ?_
      simp -implicitDefEqProofs only [go_sem]
     ·refine zag Tryz.call113 Tryz.func113 rfl (by kernel_rfl) (zau (by kernel_rfl)) ?_
      simp -implicitDefEqProofs only [go_sem, Tryz.results113, h3, e8, e9, hvn, hp0, e0, zaa q]
      refine callF (HFr) (by simp -implicitDefEqProofs only [go_sem]) ?_
      simp -implicitDefEqProofs only [go_sem]
      refine callF (HIn) (by simp -implicitDefEqProofs only [go_sem]) ?_
      simp -implicitDefEqProofs only [go_sem]
      refine callF (HOw) (by simp -implicitDefEqProofs only [go_sem]) ?_
      simp -implicitDefEqProofs only [go_sem]
    ·rw [hcn, if_neg (by simp)] at hv
     rw [hcn] at HIn
     cases hti : TV.contains f.var
     ·rw [hti, if_neg (by simp)] at hv
      rw [hti] at HIt
      simp only [fmD, zaa f, tmD, zab t, zaa q] at HVs HFr ⊢
      rcases key with e8 | ⟨e8, e9⟩
      ·refine zag Tryz.call113 Tryz.func113 rfl (by kernel_rfl) (zau (by kernel_rfl)) ?_
       simp -implicitDefEqProofs only [go_sem, Tryz.results113, h3, e8, hvn, hp0, e0, zaa q]
       refine callF (HFr) (by simp -implicitDefEqProofs only [go_sem]) ?_
       simp -implicitDefEqProofs only [go_sem]
       refine callF (HIn) (by simp -implicitDefEqProofs only [go_sem]) ?_
       simp -implicitDefEqProofs only [go_sem]
       refine drawn (by kernel_rfl) ?_
       simp -implicitDefEqProofs only [go_sem]
       refine zan (HVs) (by simp -implicitDefEqProofs only [go_sem]) ?_
       simp -implicitDefEqProofs only [go_sem]
       refine zan (HIt) (by simp -implicitDefEqProofs only [go_sem]) ?_
       simp -implicitDefEqProofs only [go_sem]
       refine ⟨by kernel_rfl, ?_⟩
       refine zad (fun k : Nat => hd [(1, vT (.str n)), (3, .one (.bx 3 0)), (5, .one (.bx 5 0)), (6, .one (.bx 6 0)), (8, .one (.bx 8 0)), (9, vI k)] [(3, [.t (.int .i64 f.op), .t (.str f.atom.name), .t (tmS f.atom.args), .t (.str f.var), .t (fmS f.parts)]), (5, [.t (.str t.name), .t (tmS t.args)]), (6, [.t (.int .i64 0), .t (.str []), .nl 2, .t (.str []), .nl 5]), (8, [.t (.int .i64 f.op), .t (.str []), .nl 2, .t (.str f.var), .ow 8000 0])] [(8000, ⟨true, 5, (f.parts.take k).map fun x => fmC (zbt n t x).1, 0, true⟩)]) (fun k => k <= f.parts.length /\ ∀ x ∈ f.parts.take k, (zbt n t x).2 = true) (fun k => f.parts.length - k) 0 (zac ?_) ⟨Nat.zero_le _, by simp⟩ ?_
       ·simp -implicitDefEqProofs only [go_sem]
       ·rintro k ⟨hk, hT⟩
        by_cases hlt : k < f.parts.length
        ·have HC := H f.parts[k] (List.getElem_mem hlt)
         have hmin : min k f.parts.length <= 4294967295 := by omega
         simp only [fmD, zaa f.parts[k], zaa (zbt n t f.parts[k]).1, tmD, zab t] at HC
         cases hk2 : (zbt n t f.parts[k]).2
         ·rw [hk2] at HC
          have htw := (zda (p := fun x => (zbt n t x).2) hk hT fun _ => hk2).1
          have hall : (f.parts.all fun x => (zbt n t x).2) = false := by rw [List.all_eq_false]; exact ⟨_, List.getElem_mem hlt, by rw [hk2]; simp⟩
          rw [htw, hall] at hv
          rw [hv]
          simp -implicitDefEqProofs only [go_sem, hlt]
          refine drawn (by kernel_rfl) ?_
          simp -implicitDefEqProofs only [go_sem, zaf, hlt, zaa f.parts[k]]
          refine zan (HC) (by simp -implicitDefEqProofs only [go_sem]) ?_
          simp -implicitDefEqProofs only [go_sem]
          refine ⟨by kernel_rfl, ?_⟩
          simp -implicitDefEqProofs only [go_sem, zdl, List.map_map, Function.comp_def]
          exact ⟨rfl, rfl⟩
         ·rw [hk2] at HC
          simp -implicitDefEqProofs only [go_sem, hlt]
          refine drawn (by kernel_rfl) ?_
          simp -implicitDefEqProofs only [go_sem, zaf, hlt, zaa f.parts[k]]
          refine zan (HC) (by simp -implicitDefEqProofs only [go_sem]) ?_
          simp -implicitDefEqProofs only [go_sem]
          refine ⟨by kernel_rfl, ?_⟩
          refine zal (by simp -implicitDefEqProofs only [go_sem]) ?_
          simp -implicitDefEqProofs only [go_sem]
          refine apD true (by simp -implicitDefEqProofs only [go_sem, ne_eq, List.length_map, List.length_take, hmin]) ?_
          simp -implicitDefEqProofs only [go_sem, ne_eq, List.length_map, List.length_take, hmin]
          refine ⟨k + 1, ⟨hlt, fun x hx => ?_⟩, by omega, zac ?_⟩
          ·rw [List.take_succ_eq_append_getElem hlt] at hx
           rcases List.mem_append.1 hx with hx | hx
           ·exact hT x hx
           ·rw [List.mem_singleton] at hx; subst hx; exact hk2
          ·simp -implicitDefEqProofs only [go_sem]
           rw [zas (by omega), List.take_succ_eq_append_getElem hlt, List.map_append, List.map_singleton]
           simp only [zaa]
           trivial
        ·have htk : f.parts.take k = f.parts := List.take_of_length_le (by omega)
         rw [htk] at hT
         have hall : (f.parts.all fun x => (zbt n t x).2) = true := List.all_eq_true.2 hT
         have htw : (f.parts.takeWhile fun x => (zbt n t x).2) = f.parts := by
          have := (zda (l := f.parts) (p := fun x => (zbt n t x).2) (k := f.parts.length) (Nat.le_refl _) (by rw [List.take_length]; exact hT) fun h => absurd h (Nat.lt_irrefl _)).1
          rw [this, List.take_length]
         rw [htw, hall] at hv
         rw [hv]
         simp -implicitDefEqProofs only [go_sem, hlt, htk, zdl, List.map_map, Function.comp_def]
         exact ⟨rfl, rfl⟩
      ·refine zag Tryz.call113 Tryz.func113 rfl (by kernel_rfl) (zau (by kernel_rfl)) ?_
       simp -implicitDefEqProofs only [go_sem, Tryz.results113, h3, e8, e9, hvn, hp0, e0, zaa q]
       refine callF (HFr) (by simp -implicitDefEqProofs only [go_sem]) ?_
       simp -implicitDefEqProofs only [go_sem]
       refine callF (HIn) (by simp -implicitDefEqProofs only [go_sem]) ?_
       simp -implicitDefEqProofs only [go_sem]
       refine drawn (by kernel_rfl) ?_
       simp -implicitDefEqProofs only [go_sem]
       refine zan (HVs) (by simp -implicitDefEqProofs only [go_sem]) ?_
       simp -implicitDefEqProofs only [go_sem]
       refine zan (HIt) (by simp -implicitDefEqProofs only [go_sem]) ?_
       simp -implicitDefEqProofs only [go_sem]
       refine ⟨by kernel_rfl, ?_⟩
       refine zad (fun k : Nat => hd [(1, vT (.str n)), (3, .one (.bx 3 0)), (5, .one (.bx 5 0)), (6, .one (.bx 6 0)), (8, .one (.bx 8 0)), (9, vI k)] [(3, [.t (.int .i64 f.op), .t (.str f.atom.name), .t (tmS f.atom.args), .t (.str f.var), .t (fmS f.parts)]), (5, [.t (.str t.name), .t (tmS t.args)]), (6, [.t (.int .i64 0), .t (.str []), .nl 2, .t (.str []), .nl 5]), (8, [.t (.int .i64 f.op), .t (.str []), .nl 2, .t (.str f.var), .ow 8000 0])] [(8000, ⟨true, 5, (f.parts.take k).map fun x => fmC (zbt n t x).1, 0, true⟩)]) (fun k => k <= f.parts.length /\ ∀ x ∈ f.parts.take k, (zbt n t x).2 = true) (fun k => f.parts.length - k) 0 (zac ?_) ⟨Nat.zero_le _, by simp⟩ ?_
       ·simp -implicitDefEqProofs only [go_sem]
       ·rintro k ⟨hk, hT⟩
        by_cases hlt : k < f.parts.length
        ·have HC := H f.parts[k] (List.getElem_mem hlt)
         have hmin : min k f.parts.length <= 4294967295 := by omega
         simp only [fmD, zaa f.parts[k], zaa (zbt n t f.parts[k]).1, tmD, zab t] at HC
         cases hk2 : (zbt n t f.parts[k]).2
         ·rw [hk2] at HC
          have htw := (zda (p := fun x => (zbt n t x).2) hk hT fun _ => hk2).1
          have hall : (f.parts.all fun x => (zbt n t x).2) = false := by rw [List.all_eq_false]; exact ⟨_, List.getElem_mem hlt, by rw [hk2]; simp⟩
          rw [htw, hall] at hv
          rw [hv]
          simp -implicitDefEqProofs only [go_sem, hlt]
          refine drawn (by kernel_rfl) ?_
          simp -implicitDefEqProofs only [go_sem, zaf, hlt, zaa f.parts[k]]
          refine zan (HC) (by simp -implicitDefEqProofs only [go_sem]) ?_
          simp -implicitDefEqProofs only [go_sem]
          refine ⟨by kernel_rfl, ?_⟩
          simp -implicitDefEqProofs only [go_sem, zdl, List.map_map, Function.comp_def]
          exact ⟨rfl, rfl⟩
         ·rw [hk2] at HC
          simp -implicitDefEqProofs only [go_sem, hlt]
          refine drawn (by kernel_rfl) ?_
          simp -implicitDefEqProofs only [go_sem, zaf, hlt, zaa f.parts[k]]
          refine zan (HC) (by simp -implicitDefEqProofs only [go_sem]) ?_
          simp -implicitDefEqProofs only [go_sem]
          refine ⟨by kernel_rfl, ?_⟩
          refine zal (by simp -implicitDefEqProofs only [go_sem]) ?_
          simp -implicitDefEqProofs only [go_sem]
          refine apD true (by simp -implicitDefEqProofs only [go_sem, ne_eq, List.length_map, List.length_take, hmin]) ?_
          simp -implicitDefEqProofs only [go_sem, ne_eq, List.length_map, List.length_take, hmin]
          refine ⟨k + 1, ⟨hlt, fun x hx => ?_⟩, by omega, zac ?_⟩
          ·rw [List.take_succ_eq_append_getElem hlt] at hx
           rcases List.mem_append.1 hx with hx | hx
           ·exact hT x hx
           ·rw [List.mem_singleton] at hx; subst hx; exact hk2
          ·simp -implicitDefEqProofs only [go_sem]
           rw [zas (by omega), List.take_succ_eq_append_getElem hlt, List.map_append, List.map_singleton]
           simp only [zaa]
           trivial
        ·have htk : f.parts.take k = f.parts := List.take_of_length_le (by omega)
         rw [htk] at hT
         have hall : (f.parts.all fun x => (zbt n t x).2) = true := List.all_eq_true.2 hT
         have htw : (f.parts.takeWhile fun x => (zbt n t x).2) = f.parts := by
          have := (zda (l := f.parts) (p := fun x => (zbt n t x).2) (k := f.parts.length) (Nat.le_refl _) (by rw [List.take_length]; exact hT) fun h => absurd h (Nat.lt_irrefl _)).1
          rw [this, List.take_length]
         rw [htw, hall] at hv
         rw [hv]
         simp -implicitDefEqProofs only [go_sem, hlt, htk, zdl, List.map_map, Function.comp_def]
         exact ⟨rfl, rfl⟩
     ·rw [hti, if_pos rfl] at hv
      rw [hti] at HIt
      rw [hv]
      have e5 : fmD (.mk f.op (.mk [] []) f.var []) = .agg [.int .i64 f.op, .str [], .sl 2 [], .str f.var, .sl 5 []] := by unfold fmD; rw [zaa]; rfl
      rw [e5]
      simp only [fmD, zaa f, tmD, zab t, zaa q] at HVs HFr ⊢
      rcases key with e8 | ⟨e8, e9⟩
      ·refine zag Tryz.call113 Tryz.func113 rfl (by kernel_rfl) (zau (by kernel_rfl)) ?_
       simp -implicitDefEqProofs only [go_sem, Tryz.results113, h3, e8, hvn, hp0, e0, zaa q]
       refine callF (HFr) (by simp -implicitDefEqProofs only [go_sem]) ?_
       simp -implicitDefEqProofs only [go_sem]
       refine callF (HIn) (by simp -implicitDefEqProofs only [go_sem]) ?_
       simp -implicitDefEqProofs only [go_sem]
       refine drawn (by kernel_rfl) ?_
       simp -implicitDefEqProofs only [go_sem]
       refine zan (HVs) (by simp -implicitDefEqProofs only [go_sem]) ?_
       simp -implicitDefEqProofs only [go_sem]
       refine zan (HIt) (by simp -implicitDefEqProofs only [go_sem]) ?_
       simp -implicitDefEqProofs only [go_sem]
       kernel_rfl
      ·refine zag Tryz.call113 Tryz.func113 rfl (by kernel_rfl) (zau (by kernel_rfl)) ?_
       simp -implicitDefEqProofs only [go_sem, Tryz.results113, h3, e8, e9, hvn, hp0, e0, zaa q]
       refine callF (HFr) (by simp -implicitDefEqProofs only [go_sem]) ?_
       simp -implicitDefEqProofs only [go_sem]
       refine callF (HIn) (by simp -implicitDefEqProofs only [go_sem]) ?_
       simp -implicitDefEqProofs only [go_sem]
       refine drawn (by kernel_rfl) ?_
       simp -implicitDefEqProofs only [go_sem]
       refine zan (HVs) (by simp -implicitDefEqProofs only [go_sem]) ?_
       simp -implicitDefEqProofs only [go_sem]
       refine zan (HIt) (by simp -implicitDefEqProofs only [go_sem]) ?_
       simp -implicitDefEqProofs only [go_sem]
       kernel_rfl
   ·rw [hvn, Bool.true_or, if_pos rfl] at hv
    rw [hv]
    simp only [fmD, zaa f, tmD, zab t] at HOw ⊢
    rcases key with e8 | ⟨e8, e9⟩
    ·refine zag Tryz.call113 Tryz.func113 rfl (by kernel_rfl) (zau (by kernel_rfl)) ?_
     simp -implicitDefEqProofs only [go_sem, Tryz.results113, h3, e8, hvn]
     refine callF (HOw) (by simp -implicitDefEqProofs only [go_sem]) ?_
     simp -implicitDefEqProofs only [go_sem]
    ·refine zag Tryz.call113 Tryz.func113 rfl (by kernel_rfl) (zau (by kernel_rfl)) ?_
     simp -implicitDefEqProofs only [go_sem, Tryz.results113, h3, e8, e9, hvn]
     refine callF (HOw) (by simp -implicitDefEqProofs only [go_sem]) ?_
     simp -implicitDefEqProofs only [go_sem]
 ·rw [h3, if_pos rfl] at hv
  have HA := qed (bnd n t) (qk3 n t) (bnd_wt n t ht) f.atom (by have := ziz f; omega)
  rw [hv]
  generalize zfz (bnd n t) f.atom = R at HA hwa ⊢
  have HO := zui R hwa
  cases hn : t.name == n
  ·have e0 : bnd n t = [(n, t)] := by unfold bnd; rw [hn, if_neg (by simp)]
   have HP := zzo n t ht hn
   have hS0 : sbS [] = .sl 3 [] := rfl
   rw [e0] at HA
   generalize [(n, t)] = B at HA HP
   rw [hS0] at HP
   unfold sbS at HP HA
   generalize B.map bnC = L at HA HP
   simp only [fmD, zaa f, tmD, zab t, zab f.atom, zab R, zdl, List.map_nil] at HA HP HO ⊢
   refine zag Tryz.call113 Tryz.func113 rfl (by kernel_rfl) (zau (by kernel_rfl)) ?_
   simp -implicitDefEqProofs only [go_sem, Tryz.results113, h3]
   refine drawn (by kernel_rfl) ?_
   simp -implicitDefEqProofs only [go_sem]
   refine zan (HP) (by simp -implicitDefEqProofs only [go_sem]) ?_
   simp -implicitDefEqProofs only [go_sem]
   refine zan (HA) (by simp -implicitDefEqProofs only [go_sem]) ?_
   simp -implicitDefEqProofs only [go_sem]
   refine ⟨by kernel_rfl, ?_⟩
   refine drawn (by kernel_rfl) ?_
   simp -implicitDefEqProofs only [go_sem]
   refine zan (HO) (by simp -implicitDefEqProofs only [go_sem]) ?_
   simp -implicitDefEqProofs only [go_sem]
   kernel_rfl
  ·have e0 : bnd n t = [] := by unfold bnd; rw [hn, if_pos rfl]
   have HP := zx3 n t hn
   have hS0 : sbS [] = .sl 3 [] := rfl
   rw [e0] at HA
   rw [hS0] at HP HA
   simp only [fmD, zaa f, tmD, zab t, zab f.atom, zab R, zdl, List.map_nil] at HA HP HO ⊢
   refine zag Tryz.call113 Tryz.func113 rfl (by kernel_rfl) (zau (by kernel_rfl)) ?_
   simp -implicitDefEqProofs only [go_sem, Tryz.results113, h3]
   refine drawn (by kernel_rfl) ?_
   simp -implicitDefEqProofs only [go_sem]
   refine zif HP (by simp -implicitDefEqProofs only [go_sem]) ?_
   simp -implicitDefEqProofs only [go_sem]
   refine zan (HA) (by simp -implicitDefEqProofs only [go_sem]) ?_
   simp -implicitDefEqProofs only [go_sem]
   refine ⟨by kernel_rfl, ?_⟩
   refine drawn (by kernel_rfl) ?_
   simp -implicitDefEqProofs only [go_sem]
   refine zan (HO) (by simp -implicitDefEqProofs only [go_sem]) ?_
   simp -implicitDefEqProofs only [go_sem]
   kernel_rfl
end Go.Proofs.YtemnhgmgeijkcaaGreat
namespace Go.Proofs.YtemnhgmgeijkcaaGreat
set_option linter.unusedSimpArgs false
set_option linter.unusedVariables false
set_option linter.unusedSectionVars false
set_option maxRecDepth 4000
open Go.RowKit
theorem qlz (n : Str) (t : Tm) : ∀ a : Tm, (zfy n t a).wt <= a.wt + a.nodes * t.wt := zbx fun m xs ih => by
 rw [zo7, Tm.nodes_eq]
 show (if xs.length = 0 then (if (n == m) = true then t else .mk m []) else .mk m (xs.map (zfy n t))).wt <= (Tm.mk m xs).wt + (1 + (xs.map Tm.nodes).sum) * t.wt
 have hs : (xs.map fun x => (zfy n t x).wt).sum <= (xs.map Tm.wt).sum + (xs.map Tm.nodes).sum * t.wt := by
  revert ih
  induction xs with
  | nil => simp
  | cons x xs ih2 =>
   intro ih
   have h1 := ih x (by simp)
   have h2 := ih2 fun y hy => ih y (by simp [hy])
   simp only [List.map_cons, List.sum_cons, Nat.add_mul]
   omega
 have h0 := Tm.wt_eq (.mk m xs)
 have h0 : (Tm.mk m xs).wt = m.length + xs.length + (xs.map Tm.wt).sum := h0
 rw [Nat.add_mul, Nat.one_mul]
 split
 ·split
  ·omega
  ·have h1 := Tm.wt_eq (.mk m [])
   have h1 : (Tm.mk m []).wt = m.length + 0 + 0 := h1
   omega
 ·have h1 := Tm.wt_eq (.mk m (xs.map (zfy n t)))
  have h1 : (Tm.mk m (xs.map (zfy n t))).wt = m.length + (xs.map (zfy n t)).length + ((xs.map (zfy n t)).map Tm.wt).sum := h1
  rw [List.length_map, List.map_map] at h1
  have h2 : (xs.map (Tm.wt ∘ zfy n t)).sum = (xs.map fun x => (zfy n t x).wt).sum := rfl
  omega
theorem zy2 (l : List (Str × Tm)) (W : Nat) (hW : ∀ p ∈ l, p.2.wt <= W) : ∀ a : Tm, (zfz l a).wt <= a.wt + a.nodes * W := zbx fun m xs ih => by
 rw [zof, Tm.nodes_eq]
 show (if zbc m = true then (match l.find? fun (p : Str × Tm) => p.1 == m with | some p => p.2 | none => .mk m []) else .mk m (xs.map (zfz l))).wt <= (Tm.mk m xs).wt + (1 + (xs.map Tm.nodes).sum) * W
 have hs : (xs.map fun x => (zfz l x).wt).sum <= (xs.map Tm.wt).sum + (xs.map Tm.nodes).sum * W := by
  revert ih
  induction xs with
  | nil => simp
  | cons x xs ih2 =>
   intro ih
   have h1 := ih x (by simp)
   have h2 := ih2 fun y hy => ih y (by simp [hy])
   simp only [List.map_cons, List.sum_cons, Nat.add_mul]
   omega
 have h0 := Tm.wt_eq (.mk m xs)
 have h0 : (Tm.mk m xs).wt = m.length + xs.length + (xs.map Tm.wt).sum := h0
 rw [Nat.add_mul, Nat.one_mul]
 split
 ·split
  ·rename_i p hp
   have := hW p (List.mem_of_find?_eq_some hp)
   omega
  ·have h1 := Tm.wt_eq (.mk m [])
   have h1 : (Tm.mk m []).wt = m.length + 0 + 0 := h1
   omega
 ·have h1 := Tm.wt_eq (.mk m (xs.map (zfz l)))
  have h1 : (Tm.mk m (xs.map (zfz l))).wt = m.length + (xs.map (zfz l)).length + ((xs.map (zfz l)).map Tm.wt).sum := h1
  rw [List.length_map, List.map_map] at h1
  have h2 : (xs.map (Tm.wt ∘ zfz l)).sum = (xs.map fun x => (zfz l x).wt).sum := rfl
  omega
theorem qbi (n : Str) (t : Tm) : ∀ p ∈ bnd n t, p.2.wt <= t.wt := by
 unfold bnd
 split
 ·simp
 ·intro p hp; simp at hp; rw [hp]; exact Nat.le_refl _
theorem qmt (n : Str) (t : Tm) (ht : t.wt <= 1048576) : ∀ f : Fm, f.forms = true -> f.wt <= 1048576 -> f.wt + (1 + f.wt) * t.wt <= 1099511627776 -> FC Tryz.prog 113 [fmD f, sD n, tmD t] [fmD (zbt n t f).1, bD (zbt n t f).2] :=
 zcb fun o a v ps ih hf hw hb => by
  refine qhj n t ht (.mk o a v ps) hf hw ?_ fun x hx => ih x hx (by rw [Fm.forms_eq, Bool.and_eq_true] at hf; exact List.all_eq_true.1 hf.2 x hx) (Nat.le_trans (zct (a := .mk o a v ps) hx) hw) ?_
  ·have h1 := zy2 (bnd n t) t.wt (qbi n t) a
   have h2 := zfh a
   have h3 : a.wt <= (Fm.mk o a v ps).wt := ziz (.mk o a v ps)
   have h4 : a.nodes * t.wt <= (1 + (Fm.mk o a v ps).wt) * t.wt := Nat.mul_le_mul_right _ (by omega)
   show (zfz (bnd n t) a).wt <= _
   omega
  ·have h3 := zct (a := .mk o a v ps) hx
   have h4 : (1 + x.wt) * t.wt <= (1 + (Fm.mk o a v ps).wt) * t.wt := Nat.mul_le_mul_right _ (by omega)
   omega
theorem qmk : (mkF 0 []).wt = 0 := rfl
theorem qaz {α : Type} {g w : α -> Nat} {W : Nat} : ∀ ps : List α, (∀ x ∈ ps, g x <= w x + (1 + w x) * W) -> (ps.map g).sum <= (ps.map w).sum + (ps.length + (ps.map w).sum) * W
 | [], _ => by simp
 | x :: xs, ih => by
  have h1 := ih x (by simp)
  have h2 := qaz (g := g) (w := w) (W := W) xs fun y hy => ih y (by simp [hy])
  simp only [List.map_cons, List.sum_cons, List.length_cons]
  have e : (xs.length + 1 + (w x + (xs.map w).sum)) * W = (1 + w x) * W + (xs.length + (xs.map w).sum) * W := by rw [<- Nat.add_mul]; congr 1; omega
  rw [e]
  omega
theorem qm3 (n : Str) (t : Tm) : ∀ f : Fm, (zdj n t f).1.wt <= f.wt + (1 + f.wt) * t.wt := zcb fun o a v ps ih => by
 rw [zs8]
 have h0 : (Fm.mk o a v ps).wt = a.wt + v.length + ps.length + (ps.map Fm.wt).sum := Fm.wt_eq (.mk o a v ps)
 split
 ·exact Nat.le_add_right _ _
 ·split
  ·rw [qmk]; exact Nat.zero_le _
  ·have hs : (ps.map fun x => (zdj n t x).1.wt).sum <= (ps.map Fm.wt).sum + (ps.length + (ps.map Fm.wt).sum) * t.wt := qaz (g := fun x => (zdj n t x).1.wt) (w := Fm.wt) (W := t.wt) ps ih
   have ha := qlz n t a
   have hn := zfh a
   show (Fm.mk o (if (o == 3) = true then zfy n t a else a) v (ps.map fun x => (zdj n t x).1)).wt <= _
   have h1 := Fm.wt_eq (.mk o (if (o == 3) = true then zfy n t a else a) v (ps.map fun x => (zdj n t x).1))
   have h1 : (Fm.mk o (if (o == 3) = true then zfy n t a else a) v (ps.map fun x => (zdj n t x).1)).wt = (if (o == 3) = true then zfy n t a else a).wt + v.length + (ps.map fun x => (zdj n t x).1).length + ((ps.map fun x => (zdj n t x).1).map Fm.wt).sum := h1
   rw [List.length_map, List.map_map] at h1
   have h2 : (ps.map (Fm.wt ∘ fun x => (zdj n t x).1)).sum = (ps.map fun x => (zdj n t x).1.wt).sum := rfl
   have h3 : (if (o == 3) = true then zfy n t a else a).wt <= a.wt + (1 + a.wt) * t.wt := by
    have : a.nodes * t.wt <= (1 + a.wt) * t.wt := Nat.mul_le_mul_right _ (by omega)
    split <;> omega
   have h4 : (1 + a.wt) * t.wt + (ps.length + (ps.map Fm.wt).sum) * t.wt <= (1 + (Fm.mk o a v ps).wt) * t.wt := by rw [<- Nat.add_mul]; exact Nat.mul_le_mul_right _ (by omega)
   omega
end Go.Proofs.YtemnhgmgeijkcaaGreat
namespace Go.Proofs.YtemnhgmgeijkcaaGreat
set_option linter.unusedSimpArgs false
set_option linter.unusedVariables false
set_option linter.unusedSectionVars false
set_option maxRecDepth 4000
open Go.RowKit
attribute [local go_sem] Oper.semAt_some
end Go.Proofs.YtemnhgmgeijkcaaGreat
namespace Go.Proofs.YtemnhgmgeijkcaaGreat
set_option linter.unusedSimpArgs false
set_option linter.unusedVariables false
set_option linter.unusedSectionVars false
set_option maxRecDepth 4000
open Go.RowKit
theorem zg0 (xs : List Fm) (hs : zb5 xs <= 1048576) : FC Tryz.prog 211 [.one (fmS xs)] [.one (fmS xs)] := by
 have hW : zb5 xs = xs.length + (xs.map Fm.wt).sum := rfl
 refine zag Tryz.call211 Tryz.func211 rfl (by kernel_rfl) (zau (by kernel_rfl)) ?_
 simp -implicitDefEqProofs only [go_sem, Tryz.results211]
 refine zal (by simp -implicitDefEqProofs only [go_sem]) ?_
 simp -implicitDefEqProofs only [go_sem]
 refine zad (fun k : Nat => hd [(3, .one (.ow 192 k)), (7, vT (fmS xs)), (8, vI xs.length), (9, vI k)] [] [(192, ⟨true, 5, (xs.take k).map fmC, k, true⟩)]) (fun k => k <= xs.length) (fun k => xs.length - k) 0 (zac ?_) ?_ ?_
 ·simp -implicitDefEqProofs only [go_sem]
 ·simp
 ·intro k hk
  by_cases hlt : k < xs.length
  ·have hmin : min k xs.length <= 4294967295 := by omega
   have hx : xs[k].wt <= 1048576 := by have := zbu Fm.wt xs xs[k] (List.getElem_mem hlt); omega
   simp -implicitDefEqProofs only [go_sem, zaf, hlt, zaa xs[k]]
   refine callF (zih xs[k] hx) (by simp -implicitDefEqProofs only [go_sem, zaa]) ?_
   simp -implicitDefEqProofs only [go_sem, zaa]
   refine zal (by simp -implicitDefEqProofs only [go_sem]) ?_
   simp -implicitDefEqProofs only [go_sem]
   refine apD true (by simp -implicitDefEqProofs only [go_sem, ne_eq, List.length_map, List.length_take, hmin]) ?_
   simp -implicitDefEqProofs only [go_sem, ne_eq, List.length_map, List.length_take, hmin]
   refine ⟨k + 1, hlt, by omega, zac ?_⟩
   simp -implicitDefEqProofs only [go_sem]
   rw [zas (by omega), List.take_succ_eq_append_getElem hlt, List.map_append, List.map_singleton, zaa xs[k]]
   exact ⟨rfl, rfl⟩
  ·have ht : xs.take k = xs := List.take_of_length_le (by omega)
   simp -implicitDefEqProofs only [go_sem, hlt, ht]
end Go.Proofs.YtemnhgmgeijkcaaGreat
namespace Go.Proofs.YtemnhgmgeijkcaaGreat
set_option linter.unusedSimpArgs false
set_option linter.unusedVariables false
set_option linter.unusedSectionVars false
set_option maxRecDepth 4000
open Go.RowKit
def mtd : Nat -> Nat -> Str -> Str
 | 0, _, acc => acc
 | fuel + 1, n, acc => if n = 0 then acc else mtd fuel (n / 10) (UInt8.ofNat (48 + n % 10) :: acc)
def mtx (k : Nat) : Str := 109 :: mtd (k + 1) k []
theorem zom (fuel n : Nat) (acc : Str) (h : 0 < n) : mtd (fuel + 1) n acc = mtd fuel (n / 10) (UInt8.ofNat (48 + n % 10) :: acc) := by rw [mtd, if_neg (by omega)]
theorem zvg : ∀ (f f' n : Nat) (acc : Str), n < f -> n < f' -> mtd f n acc = mtd f' n acc
 | 0, _, n, _, h, _ => absurd h (by omega)
 | _ + 1, 0, n, _, _, h => absurd h (by omega)
 | f + 1, f' + 1, n, acc, h, h' => by
  by_cases h0 : n = 0
  ·simp [mtd, h0]
  ·rw [zom _ _ _ (by omega), zom _ _ _ (by omega)]
   exact zvg f f' _ _ (by omega) (by omega)
theorem qle {n : Nat} (h : n < 256) : IntKind.u8.wrap (n : Int) = n := by
 have e : IntKind.u8.wrap (n : Int) = (n : Int) % 256 := rfl
 rw [e]; omega
theorem zd9 (k : Nat) (hk0 : 0 < k) (hk : k <= 4611686018427387904) : FC Tryz.prog 131 [iD k] [sD (mtx k)] := by
 have h0 : ((k : Int) <= 0) = False := by simp; omega
 refine zag Tryz.call131 Tryz.func131 rfl (by kernel_rfl) (zau (by kernel_rfl)) ?_
 simp -implicitDefEqProofs only [go_sem, Tryz.results131, h0]
 refine zad (fun (x : Nat × Str) => hd [(0, vI x.1), (3, vT (.str x.2))] [] []) (fun x => mtx k = 109 :: mtd (x.1 + 1) x.1 x.2 /\ x.1 * 10 ^ x.2.length <= k /\ x.2.length <= 19) (fun x => x.1) (k, []) (zac ?_) ?_ ?_
 ·simp -implicitDefEqProofs only [go_sem]
 ·exact ⟨rfl, by simp, by simp⟩
 ·intro ⟨n, s⟩ ⟨h1, h2, hl⟩
  have hl : s.length <= 19 := hl
  have hn : n <= k := Nat.le_trans (Nat.le_mul_of_pos_right _ (Nat.pow_pos (by omega))) h2
  have hs : s.length <= 18 \/ n = 0 := by
   by_cases h : n = 0
   ·exact Or.inr h
   ·left
    refine Nat.le_of_not_lt fun hl => ?_
    have : 10 ^ 19 <= 10 ^ s.length := Nat.pow_le_pow_right (by omega) (by omega)
    have : 1 * 10 ^ s.length <= n * 10 ^ s.length := Nat.mul_le_mul_right _ (by omega)
    have h2 : n * 10 ^ s.length <= k := h2
    omega
  by_cases hp : 0 < n
  ·have hp' : ((n : Int) > 0) = True := by simp; omega
   have e1 : (n : Int).tmod 10 = ((n % 10 : Nat) : Int) := by rw [Int.tmod_eq_emod_of_nonneg (by omega)]; omega
   have e2 : (n : Int).tdiv 10 = ((n / 10 : Nat) : Int) := by rw [Int.tdiv_eq_ediv_of_nonneg (by omega)]; omega
   have e3 : IntKind.i64.wrap (48 + ((n % 10 : Nat) : Int)) = ((48 + n % 10 : Nat) : Int) := by rw [zbk (by omega) (by omega)]; omega
   have e4 : IntKind.u8.wrap ((48 + n % 10 : Nat) : Int) = ((48 + n % 10 : Nat) : Int) := qle (by omega)
   have e5 : IntKind.i64.wrap ((n / 10 : Nat) : Int) = ((n / 10 : Nat) : Int) := zbk (by omega) (by omega)
   simp -implicitDefEqProofs only [go_sem, hp', e1, e2, e3, e4, e5]
   refine ⟨by omega, ?_⟩
   refine zal (by simp -implicitDefEqProofs only [go_sem]) ?_
   simp -implicitDefEqProofs only [go_sem]
   have hs' : s.length <= 18 := by omega
   refine ⟨by omega, by omega, (n / 10, UInt8.ofNat (48 + n % 10) :: s), ⟨?_, ?_, show s.length + 1 <= 19 by omega⟩, by omega, zac (by simp -implicitDefEqProofs only [go_sem, e2, e5])⟩
   ·rw [h1]
    show (109 :: mtd (n + 1) n s : Str) = 109 :: mtd (n / 10 + 1) (n / 10) (UInt8.ofNat (48 + n % 10) :: s)
    rw [zom _ _ _ hp, zvg n (n / 10 + 1) _ _ (by omega) (by omega)]
   ·show n / 10 * 10 ^ (s.length + 1) <= k
    rw [Nat.pow_succ, Nat.mul_comm _ 10, <- Nat.mul_assoc]
    exact Nat.le_trans (Nat.mul_le_mul_right _ (by omega)) h2
  ·have h0' : n = 0 := by omega
   subst h0'
   simp -implicitDefEqProofs only [go_sem]
   refine ⟨by omega, ?_⟩
   rw [h1]; simp [mtd]
end Go.Proofs.YtemnhgmgeijkcaaGreat
namespace Go.Proofs.YtemnhgmgeijkcaaGreat
set_option linter.unusedSimpArgs false
set_option linter.unusedVariables false
set_option linter.unusedSectionVars false
set_option maxRecDepth 4000
open Go.RowKit
mutual
def zjn : Tm -> Nat -> Tm × Nat
 | .mk n0 s0, k => (.mk (mtx k) (zat s0 (k + 1)).1, (zat s0 (k + 1)).2)
def zat : List Tm -> Nat -> List Tm × Nat
 | [], k => ([], k)
 | a :: xs, k => ((zjn a k).1 :: (zat xs (zjn a k).2).1, (zat xs (zjn a k).2).2)
end
mutual
def zjm : Tm -> Nat
 | .mk n0 s0 => 1 + 1 + zed s0
def zed : List Tm -> Nat
 | [] => 0
 | a :: xs => zjm a + zed xs
end
mutual
theorem qdb : ∀ (a : Tm) (k : Nat), k <= (zjn a k).2 /\ (zjn a k).2 <= k + zjm a
 | .mk n0 s0, k => by have h_s0 := zcc s0 (k + 1); simp only [zjn, zjm]; omega
theorem zcc : ∀ (xs : List Tm) (k : Nat), k <= (zat xs k).2 /\ (zat xs k).2 <= k + zed xs
 | [], k => ⟨Nat.le_refl _, Nat.le_refl _⟩
 | a :: xs, k => by have h1 := qdb a k; have h2 := zcc xs (zjn a k).2; simp only [zat, zed]; omega
end
theorem zp3 : ∀ xs : List Tm, xs.length <= zed xs
  | [] => Nat.le_refl _
  | a :: xs => by have := zp3 xs; have : 1 <= zjm a := by obtain ⟨n0, s0⟩ := a; simp only [zjm]; omega
                  simp only [List.length_cons, zed]; omega
theorem zjf (xs : List Tm) (H : ∀ a ∈ xs, ∀ k : Nat, 0 < k -> k + zed a.args <= 4611686018427387904 -> IC Tryz.prog 77 [] (.one (tmS a.args)) [iD k] (.one (tmS (zat a.args k).1)) [iD (zat a.args k).2]) :
  ∀ k : Nat, 0 < k -> k + zed xs <= 4611686018427387904 -> IC Tryz.prog 77 [] (.one (tmS xs)) [iD k] (.one (tmS (zat xs k).1)) [iD (zat xs k).2] := by
 intro k h0 hk
 refine zuc Tryz.call77 Tryz.func77 rfl (by kernel_rfl) (by simp only [zcx, rd, List.map_cons, List.map_nil, List.nil_append, List.length_cons, List.length_nil, Tryz.ntmps77]; omega) (by simp only [Tryz.ntmps77]; omega) (fun vs => ?_)
 simp -implicitDefEqProofs only [go_sem, Tryz.results77, qcd, zh5, zcx, PI]
 refine zad (fun (x : List Tm × List Tm × Nat) => hd [(0, .one (.ow 0 0)), (1000000, .one (.ow 0 0)), (1, vI x.2.2), (5, vI x.1.length)] [] [(0, ⟨true, 2, x.1.map tmC ++ zek vs x.1.length (x.2.1.map tmC), 0, true⟩)])
  (fun x => (zat xs k).1 = x.1 ++ (zat x.2.1 x.2.2).1 /\ (zat xs k).2 = (zat x.2.1 x.2.2).2 /\ 0 < x.2.2 /\ x.2.2 + zed x.2.1 <= 4611686018427387904 /\ x.1.length + x.2.1.length = xs.length /\ ∀ a ∈ x.2.1, a ∈ xs) (fun x => x.2.1.length) ([], xs, k) (zac ?_) ?_ ?_
 ·simp -implicitDefEqProofs only [go_sem]
 ·exact ⟨rfl, rfl, h0, hk, by simp, fun _ h => h⟩
 ·intro ⟨dn, rest, kk⟩ ⟨h1, h2, h3, h4, h6, h5⟩
  simp only at h1 h2 h3 h4 h5 h6
  cases rest with
  | nil =>
   simp only [zat, List.append_nil] at h1 h2
   simp -implicitDefEqProofs only [go_sem, h1, h2]
  | cons a rest =>
   obtain ⟨n0, s0⟩ := a
   simp only [zat, zjn, zed, zjm] at h1 h2 h4
   have hc_s0 := zcc s0 (kk + 1)
   have w0 : IntKind.i64.wrap (((kk : Nat) : Int) + 1) = ((kk + 1 : Nat) : Int) := zas (by omega)
   have hln := zp3 xs
   rw [List.length_cons] at h6
   have wl : IntKind.i64.wrap ((dn.length : Int) + 1) = ((dn.length + 1 : Nat) : Int) := zas (by omega)
   simp -implicitDefEqProofs only [go_sem, zab (.mk _ _), Tm.name, Tm.args]
   refine callF (zd9 kk (by omega) (by omega)) (by simp -implicitDefEqProofs only [go_sem, w0]) ?_
   simp -implicitDefEqProofs only [go_sem, w0]
   refine zdv (by simp -implicitDefEqProofs only [go_sem, implies_true, w0]) ?_
   simp -implicitDefEqProofs only [go_sem, implies_true, w0]
   refine callN (l := [(0, .one (.ow 0 0)), (1000000, .one (.ow 0 0)), (5, vI dn.length), (24, .one (.cv (vs dn.length 1))), (25, vI ((kk + 1) : Nat))]) (bl := []) (el := [(0, ⟨true, 2, dn.map tmC ++ [.str (mtx kk), .pin (vs dn.length 1) (tmS s0)] :: zek vs (dn.length + 1) (rest.map tmC), 0, true⟩)]) 0 dn.length 1 (H (.mk n0 s0) (h5 _ (by simp)) (kk + 1) (by omega) (by show (kk + 1) + zed s0 <= _; omega)) (by simp -implicitDefEqProofs only [go_sem, w0, tmS]) rfl rfl rfl (by simp -implicitDefEqProofs only [go_sem, tmS, Tm.name, Tm.args]) rfl ?_
   simp -implicitDefEqProofs only [go_sem, w0, Tm.name, Tm.args]
   refine ⟨(dn ++ [.mk (mtx kk) (zat s0 (kk + 1)).1], rest, (zat s0 (kk + 1)).2), ⟨by simpa using h1, h2, by show 0 < (zat s0 (kk + 1)).2; omega, by show (zat s0 (kk + 1)).2 + zed rest <= _; omega, by simp; omega, fun b hb => h5 b (by simp [hb])⟩, by simp, zac ?_⟩
   simp -implicitDefEqProofs only [go_sem, wl, zab (.mk _ _), Tm.name, Tm.args, List.map_append, List.append_assoc]
theorem zfq (xs : List Tm) (k : Nat) (h0 : 0 < k) (hk : k + zed xs <= 4611686018427387904) : IC Tryz.prog 77 [] (.one (tmS xs)) [iD k] (.one (tmS (zat xs k).1)) [iD (zat xs k).2] :=
 zjf xs (fun a _ => zbx (P := fun a => ∀ k : Nat, 0 < k -> k + zed a.args <= 4611686018427387904 -> IC Tryz.prog 77 [] (.one (tmS a.args)) [iD k] (.one (tmS (zat a.args k).1)) [iD (zat a.args k).2]) (fun n ys ih => zjf ys ih) a) k h0 hk
mutual
def zje : Fm -> Nat -> Fm × Nat
 | .mk o0 (.mk n0 s0) v0 p0, k => (.mk ((k : Nat) : Int) (.mk (mtx (k + 1)) (zat s0 ((k + 1) + 1)).1) (mtx (zat s0 ((k + 1) + 1)).2) (zae p0 ((zat s0 ((k + 1) + 1)).2 + 1)).1, (zae p0 ((zat s0 ((k + 1) + 1)).2 + 1)).2)
def zae : List Fm -> Nat -> List Fm × Nat
 | [], k => ([], k)
 | a :: xs, k => ((zje a k).1 :: (zae xs (zje a k).2).1, (zae xs (zje a k).2).2)
end
mutual
def zji : Fm -> Nat
 | .mk o0 (.mk n0 s0) v0 p0 => 1 + 1 + 1 + zed s0 + 1 + zdy p0
def zdy : List Fm -> Nat
 | [] => 0
 | a :: xs => zji a + zdy xs
end
mutual
theorem qbu : ∀ (a : Fm) (k : Nat), k <= (zje a k).2 /\ (zje a k).2 <= k + zji a
 | .mk o0 (.mk n0 s0) v0 p0, k => by have h_s0 := zcc s0 ((k + 1) + 1); have h_p0 := zb2 p0 ((zat s0 ((k + 1) + 1)).2 + 1); simp only [zje, zji]; omega
theorem zb2 : ∀ (xs : List Fm) (k : Nat), k <= (zae xs k).2 /\ (zae xs k).2 <= k + zdy xs
 | [], k => ⟨Nat.le_refl _, Nat.le_refl _⟩
 | a :: xs, k => by have h1 := qbu a k; have h2 := zb2 xs (zje a k).2; simp only [zae, zdy]; omega
end
theorem zq8 : ∀ xs : List Fm, xs.length <= zdy xs
  | [] => Nat.le_refl _
  | a :: xs => by have := zq8 xs; have : 1 <= zji a := by obtain ⟨o0, ⟨n0, s0⟩, v0, p0⟩ := a; simp only [zji]; omega
                  simp only [List.length_cons, zdy]; omega
theorem zf6 (xs : List Fm) (H : ∀ a ∈ xs, ∀ k : Nat, 0 < k -> k + zdy a.parts <= 4611686018427387904 -> IC Tryz.prog 76 [] (.one (fmS a.parts)) [iD k] (.one (fmS (zae a.parts k).1)) [iD (zae a.parts k).2]) :
  ∀ k : Nat, 0 < k -> k + zdy xs <= 4611686018427387904 -> IC Tryz.prog 76 [] (.one (fmS xs)) [iD k] (.one (fmS (zae xs k).1)) [iD (zae xs k).2] := by
 intro k h0 hk
 refine zuc Tryz.call76 Tryz.func76 rfl (by kernel_rfl) (by simp only [zcx, rd, List.map_cons, List.map_nil, List.nil_append, List.length_cons, List.length_nil, Tryz.ntmps76]; omega) (by simp only [Tryz.ntmps76]; omega) (fun vs => ?_)
 simp -implicitDefEqProofs only [go_sem, Tryz.results76, qcd, zh5, zcx, PI]
 refine zad (fun (x : List Fm × List Fm × Nat) => hd [(0, .one (.ow 0 0)), (1000000, .one (.ow 0 0)), (1, vI x.2.2), (5, vI x.1.length)] [] [(0, ⟨true, 5, x.1.map fmC ++ zek vs x.1.length (x.2.1.map fmC), 0, true⟩)])
  (fun x => (zae xs k).1 = x.1 ++ (zae x.2.1 x.2.2).1 /\ (zae xs k).2 = (zae x.2.1 x.2.2).2 /\ 0 < x.2.2 /\ x.2.2 + zdy x.2.1 <= 4611686018427387904 /\ x.1.length + x.2.1.length = xs.length /\ ∀ a ∈ x.2.1, a ∈ xs) (fun x => x.2.1.length) ([], xs, k) (zac ?_) ?_ ?_
 ·simp -implicitDefEqProofs only [go_sem]
 ·exact ⟨rfl, rfl, h0, hk, by simp, fun _ h => h⟩
 ·intro ⟨dn, rest, kk⟩ ⟨h1, h2, h3, h4, h6, h5⟩
  simp only at h1 h2 h3 h4 h5 h6
  cases rest with
  | nil =>
   simp only [zae, List.append_nil] at h1 h2
   simp -implicitDefEqProofs only [go_sem, h1, h2]
  | cons a rest =>
   obtain ⟨o0, ⟨n0, s0⟩, v0, p0⟩ := a
   simp only [zae, zje, zdy, zji] at h1 h2 h4
   have hc_s0 := zcc s0 ((kk + 1) + 1)
   have hc_p0 := zb2 p0 ((zat s0 ((kk + 1) + 1)).2 + 1)
   have w0 : IntKind.i64.wrap (((kk : Nat) : Int) + 1) = ((kk + 1 : Nat) : Int) := zas (by omega)
   have w1 : IntKind.i64.wrap ((((kk + 1) : Nat) : Int) + 1) = (((kk + 1) + 1 : Nat) : Int) := zas (by omega)
   have w2 : IntKind.i64.wrap ((((zat s0 ((kk + 1) + 1)).2 : Nat) : Int) + 1) = (((zat s0 ((kk + 1) + 1)).2 + 1 : Nat) : Int) := zas (by omega)
   have hln := zq8 xs
   rw [List.length_cons] at h6
   have wl : IntKind.i64.wrap ((dn.length : Int) + 1) = ((dn.length + 1 : Nat) : Int) := zas (by omega)
   simp -implicitDefEqProofs only [go_sem, zaa (.mk _ _ _ _), Fm.op, Fm.atom, Fm.var, Fm.parts, Tm.name, Tm.args]
   refine zdv (by simp -implicitDefEqProofs only [go_sem, implies_true, w0, w1, w2]) ?_
   simp -implicitDefEqProofs only [go_sem, implies_true, w0, w1, w2]
   refine callF (zd9 (kk + 1) (by omega) (by omega)) (by simp -implicitDefEqProofs only [go_sem, w0, w1, w2]) ?_
   simp -implicitDefEqProofs only [go_sem, w0, w1, w2]
   refine zdv (by simp -implicitDefEqProofs only [go_sem, implies_true, w0, w1, w2]) ?_
   simp -implicitDefEqProofs only [go_sem, implies_true, w0, w1, w2]
   refine callN (l := [(0, .one (.ow 0 0)), (1000000, .one (.ow 0 0)), (5, vI dn.length), (33, .one (.cv (vs dn.length 2))), (34, vI (((kk + 1) + 1) : Nat))]) (bl := []) (el := [(0, ⟨true, 5, dn.map fmC ++ [.int .i64 ((kk : Nat) : Int), .str (mtx (kk + 1)), .pin (vs dn.length 2) (tmS s0), .str v0, .pin (vs dn.length 4) (fmS p0)] :: zek vs (dn.length + 1) (rest.map fmC), 0, true⟩)]) 0 dn.length 2 (zfq s0 ((kk + 1) + 1) (by omega) (by omega)) (by simp -implicitDefEqProofs only [go_sem, w0, w1, w2, tmS]) rfl rfl rfl (by simp -implicitDefEqProofs only [go_sem, tmS, Fm.op, Fm.atom, Fm.var, Fm.parts, Tm.name, Tm.args]) rfl ?_
   simp -implicitDefEqProofs only [go_sem, w0, w1, w2, Fm.op, Fm.atom, Fm.var, Fm.parts, Tm.name, Tm.args]
   refine callF (zd9 (zat s0 ((kk + 1) + 1)).2 (by omega) (by omega)) (by simp -implicitDefEqProofs only [go_sem, w0, w1, w2]) ?_
   simp -implicitDefEqProofs only [go_sem, w0, w1, w2]
   refine zdv (by simp -implicitDefEqProofs only [go_sem, implies_true, w0, w1, w2]) ?_
   simp -implicitDefEqProofs only [go_sem, implies_true, w0, w1, w2]
   refine callN (l := [(0, .one (.ow 0 0)), (1000000, .one (.ow 0 0)), (5, vI dn.length), (48, .one (.cv (vs dn.length 4))), (49, vI (((zat s0 ((kk + 1) + 1)).2 + 1) : Nat))]) (bl := []) (el := [(0, ⟨true, 5, dn.map fmC ++ [.int .i64 ((kk : Nat) : Int), .str (mtx (kk + 1)), tmS (zat s0 ((kk + 1) + 1)).1, .str (mtx (zat s0 ((kk + 1) + 1)).2), .pin (vs dn.length 4) (fmS p0)] :: zek vs (dn.length + 1) (rest.map fmC), 0, true⟩)]) 0 dn.length 4 (H (.mk o0 (.mk n0 s0) v0 p0) (h5 _ (by simp)) ((zat s0 ((kk + 1) + 1)).2 + 1) (by omega) (by show ((zat s0 ((kk + 1) + 1)).2 + 1) + zdy p0 <= _; omega)) (by simp -implicitDefEqProofs only [go_sem, w0, w1, w2, fmS]) rfl rfl rfl (by simp -implicitDefEqProofs only [go_sem, fmS, Fm.op, Fm.atom, Fm.var, Fm.parts, Tm.name, Tm.args]) rfl ?_
   simp -implicitDefEqProofs only [go_sem, w0, w1, w2, Fm.op, Fm.atom, Fm.var, Fm.parts, Tm.name, Tm.args]
   refine ⟨(dn ++ [.mk ((kk : Nat) : Int) (.mk (mtx (kk + 1)) (zat s0 ((kk + 1) + 1)).1) (mtx (zat s0 ((kk + 1) + 1)).2) (zae p0 ((zat s0 ((kk + 1) + 1)).2 + 1)).1], rest, (zae p0 ((zat s0 ((kk + 1) + 1)).2 + 1)).2), ⟨by simpa using h1, h2, by show 0 < (zae p0 ((zat s0 ((kk + 1) + 1)).2 + 1)).2; omega, by show (zae p0 ((zat s0 ((kk + 1) + 1)).2 + 1)).2 + zdy rest <= _; omega, by simp; omega, fun b hb => h5 b (by simp [hb])⟩, by simp, zac ?_⟩
   simp -implicitDefEqProofs only [go_sem, wl, zaa (.mk _ _ _ _), Fm.op, Fm.atom, Fm.var, Fm.parts, Tm.name, Tm.args, List.map_append, List.append_assoc]
theorem zch (xs : List Fm) (k : Nat) (h0 : 0 < k) (hk : k + zdy xs <= 4611686018427387904) : IC Tryz.prog 76 [] (.one (fmS xs)) [iD k] (.one (fmS (zae xs k).1)) [iD (zae xs k).2] :=
 zf6 xs (fun a _ => zcb (P := fun a => ∀ k : Nat, 0 < k -> k + zdy a.parts <= 4611686018427387904 -> IC Tryz.prog 76 [] (.one (fmS a.parts)) [iD k] (.one (fmS (zae a.parts k).1)) [iD (zae a.parts k).2]) (fun o b v ps ih => zf6 ps ih) a) k h0 hk
def zb8 : Tm -> Nat -> Tm × Nat
 | .mk n0 s0, k => (.mk n0 (zat s0 k).1, (zat s0 k).2)
def zg9 : Tm -> Nat
 | .mk n0 s0 => zed s0
theorem zyq : ∀ (a : Tm) (k : Nat), k <= (zb8 a k).2 /\ (zb8 a k).2 <= k + zg9 a
 | .mk n0 s0, k => by have h0 := zcc s0 k; simp only [zb8, zg9]; omega
theorem zna (a : Tm) (k : Nat) (h0 : 0 < k) (hk : k + zg9 a <= 4611686018427387904) : IC Tryz.prog 75 [] (.agg (tmC a)) [iD k] (.agg (tmC (zb8 a k).1)) [iD (zb8 a k).2] := by
 obtain ⟨n0, s0⟩ := a
 simp only [zg9] at hk
 have hc0 := zcc s0 k
 simp only [zab (.mk _ _), Tm.name, Tm.args, zb8]
 refine zxh Tryz.call75 Tryz.func75 rfl (by kernel_rfl) (by simp only [zcx, rd, List.map_cons, List.map_nil, List.nil_append, List.length_cons, List.length_nil, Tryz.ntmps75]; omega) (by simp only [Tryz.ntmps75]; omega) ⟨⟨by simp, by simp [T.isPin]⟩, zcu _⟩ trivial ?_
 simp -implicitDefEqProofs only [go_sem, Tryz.results75, zh5, zcx, PI]
 refine zm2 (l := [(1000000, .agg [.t (.str n0), .ow 1 0]), (2, .one (.bx 2 0)), (6, .one (.ow 1 0)), (7, vI (k : Nat))]) (bl := [(2, [.t (.str n0), .ow 1 0])]) (el := [(1, ⟨true, 2, (s0).map tmC, 0, true⟩)]) (zfq s0 k (by omega) (by omega)) (by simp -implicitDefEqProofs only [go_sem, zab (.mk _ _), Tm.name, Tm.args, tmS]) rfl rfl rfl (by simp -implicitDefEqProofs only [go_sem, zab (.mk _ _), Tm.name, Tm.args, tmS]) rfl ?_
 simp -implicitDefEqProofs only [go_sem, zab (.mk _ _), Tm.name, Tm.args, tmS]
def zgn : Fm -> Nat -> Fm × Nat
 | .mk o0 (.mk n0 s0) v0 p0, k => (.mk o0 (.mk n0 (zb8 (.mk n0 s0) k).1.args) v0 (zae p0 (zb8 (.mk n0 s0) k).2).1, (zae p0 (zb8 (.mk n0 s0) k).2).2)
def zio : Fm -> Nat
 | .mk o0 (.mk n0 s0) v0 p0 => zg9 (.mk n0 s0) + zdy p0
theorem zoe (a : Fm) (k : Nat) (h0 : 0 < k) (hk : k + zio a <= 4611686018427387904) : IC Tryz.prog 20 [] (.agg (fmC a)) [iD k] (.agg (fmC (zgn a k).1)) [iD (zgn a k).2] := by
 obtain ⟨o0, ⟨n0, s0⟩, v0, p0⟩ := a
 simp only [zio] at hk
 have hc0 := zyq (.mk n0 s0) k
 have hc1 := zb2 p0 (zb8 (.mk n0 s0) k).2
 simp only [zaa (.mk _ _ _ _), zab (.mk _ _), Fm.op, Fm.atom, Fm.var, Fm.parts, Tm.name, Tm.args, zgn, zb8]
 refine zxh Tryz.call20 Tryz.func20 rfl (by kernel_rfl) (by simp only [zcx, rd, List.map_cons, List.map_nil, List.nil_append, List.length_cons, List.length_nil, Tryz.ntmps20]; omega) (by simp only [Tryz.ntmps20]; omega) ⟨⟨by simp, by simp [T.isPin]⟩, zcu _⟩ trivial ?_
 simp -implicitDefEqProofs only [go_sem, Tryz.results20, zh5, zcx, PI]
 refine zm2 (l := [(1000000, .agg [.t (.int .i64 o0), .t (.str n0), .ow 2 0, .t (.str v0), .ow 4 0]), (2, .one (.bx 2 0)), (6, .agg [.t (.str n0), .ow 2 0]), (7, vI (k : Nat))]) (bl := [(2, [.t (.int .i64 o0), .t (.str n0), .ow 2 0, .t (.str v0), .ow 4 0])]) (el := [(2, ⟨true, 2, (s0).map tmC, 0, true⟩), (4, ⟨true, 5, (p0).map fmC, 0, true⟩)]) (zna (.mk n0 s0) k (by omega) (by omega)) (by simp -implicitDefEqProofs only [go_sem, zaa (.mk _ _ _ _), zab (.mk _ _), Fm.op, Fm.atom, Fm.var, Fm.parts, Tm.name, Tm.args, zb8, tmS]) rfl rfl rfl (by simp -implicitDefEqProofs only [go_sem, zaa (.mk _ _ _ _), zab (.mk _ _), Fm.op, Fm.atom, Fm.var, Fm.parts, Tm.name, Tm.args, zb8, tmS]) rfl ?_
 simp -implicitDefEqProofs only [go_sem, zaa (.mk _ _ _ _), zab (.mk _ _), Fm.op, Fm.atom, Fm.var, Fm.parts, Tm.name, Tm.args, zb8, tmS]
 refine zm2 (l := [(1000000, .agg [.t (.int .i64 o0), .t (.str n0), .ow 2 0, .t (.str v0), .ow 4 0]), (2, .one (.bx 2 0)), (10, .one (.ow 4 0)), (11, vI ((zb8 (.mk n0 s0) k).2 : Nat))]) (bl := [(2, [.t (.int .i64 o0), .t (.str n0), .ow 2 0, .t (.str v0), .ow 4 0])]) (el := [(2, ⟨true, 2, ((zat s0 k).1).map tmC, 0, true⟩), (4, ⟨true, 5, (p0).map fmC, 0, true⟩)]) (zch p0 (zb8 (.mk n0 s0) k).2 (by omega) (by omega)) (by simp -implicitDefEqProofs only [go_sem, zaa (.mk _ _ _ _), zab (.mk _ _), Fm.op, Fm.atom, Fm.var, Fm.parts, Tm.name, Tm.args, zb8, fmS]) rfl rfl rfl (by simp -implicitDefEqProofs only [go_sem, zaa (.mk _ _ _ _), zab (.mk _ _), Fm.op, Fm.atom, Fm.var, Fm.parts, Tm.name, Tm.args, zb8, fmS]) rfl ?_
 simp -implicitDefEqProofs only [go_sem, zaa (.mk _ _ _ _), zab (.mk _ _), Fm.op, Fm.atom, Fm.var, Fm.parts, Tm.name, Tm.args, zb8, fmS]
def zgt : Sq -> Nat -> Sq × Nat
 | ⟨l0, r0⟩, k => (⟨(zae l0 k).1, (zae r0 (zae l0 k).2).1⟩, (zae r0 (zae l0 k).2).2)
def ziv : Sq -> Nat
 | ⟨l0, r0⟩ => zdy l0 + zdy r0
theorem znv (a : Sq) (k : Nat) (h0 : 0 < k) (hk : k + ziv a <= 4611686018427387904) : IC Tryz.prog 39 [] (.agg (sqC a)) [iD k] (.agg (sqC (zgt a k).1)) [iD (zgt a k).2] := by
 obtain ⟨l0, r0⟩ := a
 simp only [ziv] at hk
 have hc0 := zb2 l0 k
 have hc1 := zb2 r0 (zae l0 k).2
 simp only [zah, zgt]
 refine zxh Tryz.call39 Tryz.func39 rfl (by kernel_rfl) (by simp only [zcx, rd, List.map_cons, List.map_nil, List.nil_append, List.length_cons, List.length_nil, Tryz.ntmps39]; omega) (by simp only [Tryz.ntmps39]; omega) ⟨⟨by simp, by simp [T.isPin]⟩, zcu _⟩ trivial ?_
 simp -implicitDefEqProofs only [go_sem, Tryz.results39, zh5, zcx, PI]
 refine zm2 (l := [(1000000, .agg [.ow 0 0, .ow 1 0]), (2, .one (.bx 2 0)), (6, .one (.ow 0 0)), (7, vI (k : Nat))]) (bl := [(2, [.ow 0 0, .ow 1 0])]) (el := [(0, ⟨true, 5, (l0).map fmC, 0, true⟩), (1, ⟨true, 5, (r0).map fmC, 0, true⟩)]) (zch l0 k (by omega) (by omega)) (by simp -implicitDefEqProofs only [go_sem, zah, fmS]) rfl rfl rfl (by simp -implicitDefEqProofs only [go_sem, zah, fmS]) rfl ?_
 simp -implicitDefEqProofs only [go_sem, zah, fmS]
 refine zm2 (l := [(1000000, .agg [.ow 0 0, .ow 1 0]), (2, .one (.bx 2 0)), (10, .one (.ow 1 0)), (11, vI ((zae l0 k).2 : Nat))]) (bl := [(2, [.ow 0 0, .ow 1 0])]) (el := [(0, ⟨true, 5, ((zae l0 k).1).map fmC, 0, true⟩), (1, ⟨true, 5, (r0).map fmC, 0, true⟩)]) (zch r0 (zae l0 k).2 (by omega) (by omega)) (by simp -implicitDefEqProofs only [go_sem, zah, fmS]) rfl rfl rfl (by simp -implicitDefEqProofs only [go_sem, zah, fmS]) rfl ?_
 simp -implicitDefEqProofs only [go_sem, zah, fmS]
end Go.Proofs.YtemnhgmgeijkcaaGreat
namespace Go.Proofs.YtemnhgmgeijkcaaGreat
set_option linter.unusedSimpArgs false
set_option linter.unusedVariables false
set_option linter.unusedSectionVars false
set_option maxRecDepth 4000
open Go.RowKit
mutual
theorem qab : ∀ a : Tm, zjm a <= 2 + 2 * a.wt
 | .mk n s => by
  have := zfk s
  rw [Tm.wt_eq, zjm]; unfold zri at this
  simp only [Tm.name, Tm.args]; omega
theorem zfk : ∀ xs : List Tm, zed xs <= 2 * zri xs
 | [] => by simp [zed]
 | a :: xs => by
  have h1 := qab a
  have h2 := zfk xs
  unfold zri at h2 ⊢
  rw [zed, List.length_cons, List.map_cons, List.sum_cons]; omega
end
mutual
theorem qak : ∀ a : Fm, zji a <= 4 + 4 * a.wt
 | .mk o (.mk n s) v p => by
  have h1 := zfk s
  have h2 := zev p
  rw [Fm.wt_eq, zji]; unfold zb5 at h2; unfold zri at h1
  simp only [Fm.atom, Fm.var, Fm.parts]
  rw [Tm.wt_eq]
  simp only [Tm.name, Tm.args]; omega
theorem zev : ∀ xs : List Fm, zdy xs <= 4 * zb5 xs
 | [] => by simp [zdy]
 | a :: xs => by
  have h1 := qak a
  have h2 := zev xs
  unfold zb5 at h2 ⊢
  rw [zdy, List.length_cons, List.map_cons, List.sum_cons]; omega
end
end Go.Proofs.YtemnhgmgeijkcaaGreat
namespace Go.Proofs.YtemnhgmgeijkcaaGreat
set_option linter.unusedSimpArgs false
set_option linter.unusedVariables false
set_option linter.unusedSectionVars false
set_option maxRecDepth 4000
open Go.RowKit
theorem zrz (f : Fm) (hs : f.wt <= 1099511627776) : GC Tryz.prog 70 [(true, fmD f)] [fmD (if f.good = true then f else mkF 0 []), bD f.good] := by
 cases h : f.good
 ·rw [if_neg (by simp)]
  simp only [fmD, zaa f, zin, List.map_nil]
  refine qhh Tryz.call70 Tryz.func70 rfl (by kernel_rfl) (by simp only [List.length_cons, List.length_nil, Tryz.ntmps70]; omega) (by simp [zb6, T.isPin]) ?_
  simp -implicitDefEqProofs only [go_sem, Tryz.results70]
  refine callF (zcf f hs) (by simp -implicitDefEqProofs only [go_sem, zaa f, h]) ?_
  simp -implicitDefEqProofs only [go_sem, zaa f, h]
 ·rw [if_pos rfl]
  simp only [fmD, zaa f]
  refine qhh Tryz.call70 Tryz.func70 rfl (by kernel_rfl) (by simp only [List.length_cons, List.length_nil, Tryz.ntmps70]; omega) (by simp [zb6, T.isPin]) ?_
  simp -implicitDefEqProofs only [go_sem, Tryz.results70]
  refine callF (zcf f hs) (by simp -implicitDefEqProofs only [go_sem, zaa f, h]) ?_
  simp -implicitDefEqProofs only [go_sem, zaa f, h]
end Go.Proofs.YtemnhgmgeijkcaaGreat
namespace Go.Proofs.YtemnhgmgeijkcaaGreat
set_option linter.unusedSimpArgs false
set_option linter.unusedVariables false
set_option linter.unusedSectionVars false
set_option maxRecDepth 4000
open Go.RowKit
theorem ztb {n m : Str} (hn : zbc n = true) (hm : zc4 m = true) : (n == m) = false := by
 rw [beq_eq_false_iff_ne]
 rintro rfl
 have h1 := (zvm hn).1
 have h2 := (zqp hm).1
 rw [h1] at h2
 cases h2
theorem zyd {n : Str} (h : zc4 n = true) : zbc n = false := by
 cases hv : zbc n
 ·rfl
 ·have := ztb hv h
  simp at this
theorem ql9 (v : Str) (hv : zbc v = true) : ∀ a : Tm, a.names = true -> (decide (0 < zhj v a) = (voS a).contains v) := zbx fun m xs ih h => by
 rw [Tm.names_eq] at h
 rw [zs9, zqu]
 change (if zbc m = true then decide (xs.length = 0) else zc4 m && decide (xs.length <= 4) && xs.all Tm.names) = true at h
 change decide (0 < (if (m == v) = true then 1 else 0) + (xs.map (zhj v)).sum) = (if zbc m = true then [m] else (xs.map voS).flatten).contains v
 rw [Bool.eq_iff_iff, decide_eq_true_eq, List.contains_iff_mem]
 by_cases hm : zbc m = true
 ·rw [if_pos hm] at h ⊢
  have hx : xs = [] := List.length_eq_zero_iff.1 (of_decide_eq_true h)
  subst hx
  simp only [List.map_nil, List.sum_nil, List.mem_singleton, beq_iff_eq]
  by_cases e : m = v
  ·simp [e]
  ·simp [e]; exact fun h => e h.symm
 ·rw [if_neg hm] at h ⊢
  simp only [Bool.and_eq_true] at h
  have hne := ztb hv h.1.1
  have hmv : (m == v) = false := by rw [beq_eq_false_iff_ne] at hne ⊢; exact fun e => hne e.symm
  rw [hmv, if_neg (by simp), Nat.zero_add]
  have hI : ∀ x ∈ xs, (0 < zhj v x ↔ v ∈ voS x) := fun x hx => by
   have := ih x hx (List.all_eq_true.1 h.2 x hx)
   rwa [Bool.eq_iff_iff, decide_eq_true_eq, List.contains_iff_mem] at this
  clear ih h
  rw [List.mem_flatten]
  constructor
  ·intro hs
   have : ∃ x ∈ xs, 0 < zhj v x := by
    revert hs
    clear hI
    induction xs with
    | nil => simp
    | cons x xs ih2 =>
     intro hs
     simp only [List.map_cons, List.sum_cons] at hs
     by_cases h0 : 0 < zhj v x
     ·exact ⟨x, by simp, h0⟩
     ·obtain ⟨y, hy, h1⟩ := ih2 (by omega)
      exact ⟨y, by simp [hy], h1⟩
   obtain ⟨x, hx, h1⟩ := this
   exact ⟨voS x, List.mem_map.2 ⟨x, hx, rfl⟩, (hI x hx).1 h1⟩
  ·rintro ⟨l, hl, hv2⟩
   obtain ⟨x, hx, rfl⟩ := List.mem_map.1 hl
   have h1 := (hI x hx).2 hv2
   have h2 := zbu (zhj v) xs x hx
   omega
theorem vf_mem : ∀ (f : Fm) (b : List Str) (x : Str), x ∈ vf f b ↔ x ∈ vf f [] /\ x ∉ b := zcb fun o a v ps ih b x => by
 rw [zx0 (.mk o a v ps) b, zx0 (.mk o a v ps) []]
 change x ∈ (if (o == 3) = true then (zba [] (voS a)).filter (fun s => !b.contains s) else (ps.map fun y => vf y (if isQ o = true then b ++ [v] else b)).flatten) ↔ x ∈ (if (o == 3) = true then (zba [] (voS a)).filter (fun s => !([] : List Str).contains s) else (ps.map fun y => vf y (if isQ o = true then [] ++ [v] else [])).flatten) /\ x ∉ b
 split
 ·simp [List.mem_filter]
 ·have hI : ∀ y ∈ ps, ∀ c, x ∈ vf y c ↔ x ∈ vf y [] /\ x ∉ c := fun y hy c => ih y hy c x
  simp only [List.mem_flatten, List.mem_map]
  constructor
  ·rintro ⟨l, ⟨y, hy, rfl⟩, hx⟩
   rw [hI y hy] at hx
   refine ⟨⟨_, ⟨y, hy, rfl⟩, ?_⟩, ?_⟩
   ·rw [hI y hy]
    refine ⟨hx.1, fun hm => hx.2 ?_⟩
    split at hm
    ·rw [if_pos ‹_›]; simp at hm; simp [hm]
    ·simp at hm
   ·intro hm
    apply hx.2
    split
    ·simp [hm]
    ·exact hm
  ·rintro ⟨⟨l, ⟨y, hy, rfl⟩, hx⟩, hb⟩
   rw [hI y hy] at hx
   refine ⟨_, ⟨y, hy, rfl⟩, ?_⟩
   rw [hI y hy]
   refine ⟨hx.1, fun hm => ?_⟩
   split at hm
   ·rw [if_pos ‹_›] at hx
    rcases List.mem_append.1 hm with hm | hm
    ·exact hb hm
    ·exact hx.2 (by simpa using hm)
   ·exact hb hm
theorem zeq (l : List Str) (n : Str) : (zba [] l).contains n = l.contains n := by
 rw [Bool.eq_iff_iff, List.contains_iff_mem, List.contains_iff_mem, zf4]; simp
theorem qcl {f q : Fm} {n : Str} (hq : isQ f.op = true) (hp : f.parts = [q]) (hn : (f.var == n) = false) : (zba [] (vf f [])).contains n = (zoo f.parts).contains n := by
 have h3 : (f.op == 3) = false := by
  rw [beq_eq_false_iff_ne]; intro e; rw [e] at hq; exact absurd hq (by decide)
 rw [zeq, hp]
 show _ = (zba [] (vf q [])).contains n
 rw [zeq, Bool.eq_iff_iff, List.contains_iff_mem, List.contains_iff_mem, zx0 f [], h3, if_neg (by simp), if_pos hq, hp]
 simp only [List.map_cons, List.map_nil, List.flatten_cons, List.flatten_nil, List.append_nil, List.nil_append]
 rw [vf_mem]
 rw [beq_eq_false_iff_ne] at hn
 constructor
 ·exact fun h => h.1
 ·exact fun h => ⟨h, by simpa using fun e => hn e.symm⟩
theorem zpz (n : Str) (t : Tm) (hn : zbc n = true) (ht : t.names = true) : ∀ a : Tm, a.names = true -> zfy n t a = zfz (bnd n t) a := zbx fun m xs ih h => by
 rw [Tm.names_eq] at h
 rw [zo7, zof]
 change (if zbc m = true then decide (xs.length = 0) else zc4 m && decide (xs.length <= 4) && xs.all Tm.names) = true at h
 change (if xs.length = 0 then (if (n == m) = true then t else .mk m []) else .mk m (xs.map (zfy n t))) = (if zbc m = true then (match (bnd n t).find? fun (p : Str × Tm) => p.1 == m with | some p => p.2 | none => .mk m []) else .mk m (xs.map (zfz (bnd n t))))
 by_cases hm : zbc m = true
 ·rw [if_pos hm] at h ⊢
  rw [if_pos (of_decide_eq_true h)]
  unfold bnd
  cases htn : t.name == n
  ·cases hnm : n == m <;> simp only [hnm, if_true, if_false, Bool.false_eq_true, List.find?_cons, List.find?_nil]
  ·cases hnm : n == m
   ·simp only [if_true, if_false, Bool.false_eq_true, List.find?_nil]
   ·simp only [if_true, List.find?_nil]
    have e1 : t.name = m := by rw [beq_iff_eq] at htn hnm; rw [htn, hnm]
    rw [Tm.names_eq, e1, if_pos hm] at ht
    have e2 : t.args = [] := List.length_eq_zero_iff.1 (of_decide_eq_true ht)
    cases t with
    | mk tn ta => simp only [Tm.name, Tm.args] at e1 e2; rw [e1, e2]
 ·rw [if_neg hm] at h ⊢
  simp only [Bool.and_eq_true] at h
  have hne := ztb hn h.1.1
  by_cases hx : xs.length = 0
  ·rw [if_pos hx, hne, if_neg (by simp)]
   have hx : xs = [] := List.length_eq_zero_iff.1 hx
   subst hx; rfl
  ·rw [if_neg hx]
   rw [List.map_congr_left fun x hx => ih x hx (List.all_eq_true.1 h.2 x hx)]
theorem qb6 (n : Str) (t : Tm) (hn : zbc n = true) (ht : t.names = true) (a : Tm) (h : a.atomOk = true) : zfy n t a = zfz (bnd n t) a := by
 unfold Tm.atomOk at h
 split at h
 ·rename_i he
  have he : a.name = [61] := by simpa using he
  simp only [Bool.and_eq_true, decide_eq_true_eq] at h
  rw [zo7, zof, he, show zbc [61] = false by decide, if_neg (by omega), if_neg (by simp)]
  rw [List.map_congr_left fun x hx => zpz n t hn ht x (List.all_eq_true.1 h.2 x hx)]
 ·simp only [Bool.and_eq_true] at h
  have := h.2
  unfold Tm.good at this
  rw [Bool.and_eq_true] at this
  exact zpz n t hn ht a this.2
theorem noneT {a : Tm} (h : a.none = true) : a = .mk [] [] := by
 unfold Tm.none at h
 rw [Bool.and_eq_true, beq_iff_eq, decide_eq_true_eq, List.length_eq_zero_iff] at h
 cases a with
 | mk n xs => simp only [Tm.name, Tm.args] at h; rw [h.1, h.2]
theorem zrt {f : Fm} (h : f.here = true) (h3 : (f.op == 3) = false) : f.atom = .mk [] [] := by
 apply noneT
 unfold Fm.here at h
 rw [h3] at h
 simp only [Bool.false_eq_true, if_false] at h
 split at h
 ·simp only [Bool.and_eq_true] at h; exact h.1.2
 ·split at h
  ·simp only [Bool.and_eq_true] at h; exact h.1.2
  ·split at h
   ·simp only [Bool.and_eq_true] at h; exact h.1.2
   ·split at h
    ·simp only [Bool.and_eq_true] at h; exact h.1.2
    ·cases h
theorem zqc {f : Fm} {ps : List Fm} (h : f.here = true) (h3 : (f.op == 3) = false) (hl : ps.length = f.parts.length) : (Fm.mk f.op f.atom f.var ps).here = true := by
 have e : (Fm.mk f.op f.atom f.var ps).here = f.here := by
  unfold Fm.here
  show (if (f.op == 1 || f.op == 2) = true then decide (ps.length = 0) && f.atom.none && (f.var == []) else if (f.op == 3) = true then decide (ps.length = 0) && f.atom.atomOk && (f.var == []) else if (f.op == 4) = true then decide (ps.length = 1) && f.atom.none && (f.var == []) else if zop f.op = true then decide (ps.length = 2) && f.atom.none && (f.var == []) else if isQ f.op = true then decide (ps.length = 1) && f.atom.none && zbc f.var else false) = _
  rw [hl]
 rw [e]; exact h
theorem zup {f : Fm} (h1 : f.here = true) (h : isQ f.op = true) : zbc f.var = true := by
 unfold Fm.here at h1
 have h2 : (f.op == 1 || f.op == 2) = false /\ (f.op == 3) = false /\ (f.op == 4) = false /\ zop f.op = false := by
  have h8 : f.op = 8 \/ f.op = 9 := by unfold isQ at h; rw [Bool.or_eq_true, beq_iff_eq, beq_iff_eq] at h; exact h
  rcases h8 with e | e <;> rw [e] <;> decide
 rw [h2.1, h2.2.1, h2.2.2.1, h2.2.2.2, h] at h1
 simp only [Bool.false_eq_true, if_false, if_true, Bool.and_eq_true] at h1
 exact h1.2
theorem zj4 (o : Int) (a : Tm) (v : Str) (ps : List Fm) : (Fm.mk o a v ps).forms = ((Fm.mk o a v ps).here && ps.all Fm.forms) := Fm.forms_eq _
theorem qdd (n : Str) (t : Tm) (hn : zbc n = true) (ht : t.names = true) : ∀ f : Fm, f.forms = true -> (((zdj n t f).2 = true /\ (zdj n t f).1.forms = true) ↔ ((zbt n t f).2 = true /\ (zbt n t f).1.forms = true)) /\ ((zbt n t f).2 = true -> (zbt n t f).1.forms = true -> (zdj n t f).1 = (zbt n t f).1) := zcb fun o a v ps ih hf => by
 have hS := zs8 n t (.mk o a v ps)
 have hP := zr2 n t (.mk o a v ps)
 have hf0 := hf
 rw [Fm.forms_eq, Bool.and_eq_true] at hf0
 obtain ⟨hh, hps⟩ := hf0
 have hps : ∀ x ∈ ps, x.forms = true := List.all_eq_true.1 hps
 have ihx : ∀ x ∈ ps, _ := fun x hx => ih x hx (hps x hx)
 cases h3 : o == 3
 ·have h3' : ((Fm.mk o a v ps).op == 3) = false := h3
  have ha : a = .mk [] [] := zrt hh h3'
  have hall : (∀ x ∈ ps, (zdj n t x).2 = true /\ (zdj n t x).1.forms = true) ↔ (∀ x ∈ ps, (zbt n t x).2 = true /\ (zbt n t x).1.forms = true) := forall_congr' fun x => forall_congr' fun hx => (ihx x hx).1
  have main : ((zdj n t (.mk o a v ps)) = (.mk o a v (ps.map fun x => (zdj n t x).1), ps.all fun x => (zdj n t x).2)) -> ((zbt n t (.mk o a v ps)) = (.mk o a v ((ps.takeWhile fun x => (zbt n t x).2).map fun x => (zbt n t x).1), ps.all fun x => (zbt n t x).2)) -> _ := fun e1 e2 => by
   have l1 : ((zdj n t (.mk o a v ps)).2 = true /\ (zdj n t (.mk o a v ps)).1.forms = true) ↔ (∀ x ∈ ps, (zdj n t x).2 = true /\ (zdj n t x).1.forms = true) := by
    rw [e1]
    show ((ps.all fun x => (zdj n t x).2) = true /\ (Fm.mk o a v (ps.map fun x => (zdj n t x).1)).forms = true) ↔ _
    rw [zj4, List.all_eq_true, Bool.and_eq_true, List.all_eq_true]
    have hhe : (Fm.mk o a v (ps.map fun x => (zdj n t x).1)).here = true := zqc (f := .mk o a v ps) hh h3' (by show (ps.map _).length = ps.length; rw [List.length_map])
    constructor
    ·rintro ⟨h1, _, h2⟩ x hx; exact ⟨h1 x hx, h2 _ (List.mem_map.2 ⟨x, hx, rfl⟩)⟩
    ·intro h; refine ⟨fun x hx => (h x hx).1, hhe, fun y hy => ?_⟩
     obtain ⟨x, hx, rfl⟩ := List.mem_map.1 hy; exact (h x hx).2
   have l2 : ((zbt n t (.mk o a v ps)).2 = true /\ (zbt n t (.mk o a v ps)).1.forms = true) ↔ (∀ x ∈ ps, (zbt n t x).2 = true /\ (zbt n t x).1.forms = true) := by
    rw [e2]
    show ((ps.all fun x => (zbt n t x).2) = true /\ (Fm.mk o a v ((ps.takeWhile fun x => (zbt n t x).2).map fun x => (zbt n t x).1)).forms = true) ↔ _
    constructor
    ·rintro ⟨h1, h2⟩ x hx
     have hw : (ps.takeWhile fun x => (zbt n t x).2) = ps := by
      have := (zda (l := ps) (p := fun x => (zbt n t x).2) (k := ps.length) (Nat.le_refl _) (by rw [List.take_length]; exact List.all_eq_true.1 h1) fun h => absurd h (Nat.lt_irrefl _)).1
      rw [this, List.take_length]
     rw [hw, zj4, Bool.and_eq_true, List.all_eq_true] at h2
     exact ⟨List.all_eq_true.1 h1 x hx, h2.2 _ (List.mem_map.2 ⟨x, hx, rfl⟩)⟩
    ·intro h
     have h1 : (ps.all fun x => (zbt n t x).2) = true := List.all_eq_true.2 fun x hx => (h x hx).1
     have hw : (ps.takeWhile fun x => (zbt n t x).2) = ps := by
      have := (zda (l := ps) (p := fun x => (zbt n t x).2) (k := ps.length) (Nat.le_refl _) (by rw [List.take_length]; exact List.all_eq_true.1 h1) fun h => absurd h (Nat.lt_irrefl _)).1
      rw [this, List.take_length]
     have hhe : (Fm.mk o a v (ps.map fun x => (zbt n t x).1)).here = true := zqc (f := .mk o a v ps) hh h3' (by show (ps.map _).length = ps.length; rw [List.length_map])
     rw [hw, zj4, Bool.and_eq_true]
     refine ⟨h1, hhe, List.all_eq_true.2 fun y hy => ?_⟩
     obtain ⟨x, hx, rfl⟩ := List.mem_map.1 hy; exact (h x hx).2
   refine (⟨l1.trans (hall.trans l2.symm), fun p1 p2 => ?_⟩ : (((zdj n t (.mk o a v ps)).2 = true /\ (zdj n t (.mk o a v ps)).1.forms = true) ↔ ((zbt n t (.mk o a v ps)).2 = true /\ (zbt n t (.mk o a v ps)).1.forms = true)) /\ ((zbt n t (.mk o a v ps)).2 = true -> (zbt n t (.mk o a v ps)).1.forms = true -> (zdj n t (.mk o a v ps)).1 = (zbt n t (.mk o a v ps)).1))
   have hA := l2.1 ⟨p1, p2⟩
   have h1 : (ps.all fun x => (zbt n t x).2) = true := List.all_eq_true.2 fun x hx => (hA x hx).1
   have hw : (ps.takeWhile fun x => (zbt n t x).2) = ps := by
    have := (zda (l := ps) (p := fun x => (zbt n t x).2) (k := ps.length) (Nat.le_refl _) (by rw [List.take_length]; exact List.all_eq_true.1 h1) fun h => absurd h (Nat.lt_irrefl _)).1
    rw [this, List.take_length]
   rw [e1, e2, hw]
   show Fm.mk o a v (ps.map fun x => (zdj n t x).1) = Fm.mk o a v (ps.map fun x => (zbt n t x).1)
   rw [List.map_congr_left fun x hx => (ihx x hx).2 (hA x hx).1 (hA x hx).2]
  cases hq : isQ o
  ·refine main ?_ ?_
   ·rw [hS]
    show (if (isQ o && _) = true then _ else if (isQ o && _) = true then _ else (Fm.mk o (if (o == 3) = true then zfy n t a else a) v _, _)) = _
    rw [hq, h3]
    simp only [Bool.false_and, Bool.false_eq_true, if_false]
    rfl
   ·rw [hP]
    show (if (o == 3) = true then _ else if (isQ o && _) = true then _ else if (isQ o && _) = true then _ else (Fm.mk o (.mk [] []) v _, _)) = _
    rw [hq, h3]
    simp only [Bool.false_and, Bool.false_eq_true, if_false]
    rw [<- ha]
    rfl
  ·obtain ⟨q, hp, hqf⟩ := qbb (f := .mk o a v ps) hq hf
   cases hvn : v == n
   ·have hfp := qcl (f := .mk o a v ps) (n := n) hq hp hvn
    have hvok : zbc v = true := zup (f := .mk o a v ps) hh hq
    have hoc := ql9 v hvok t ht
    have hc2 : (zba [] (voS t)).contains v = (voS t).contains v := zeq _ _
    have hS2 : zdj n t (.mk o a v ps) = if (!(zoo ps).contains n) = true then (.mk o a v ps, true) else if (voS t).contains v = true then (mkF 0 [], false) else (.mk o a v (ps.map fun x => (zdj n t x).1), ps.all fun x => (zdj n t x).2) := by
     rw [hS]
     show (if (isQ o && (v == n || !((zba [] (vf (.mk o a v ps) [])).contains n))) = true then _ else if (isQ o && decide (0 < zhj v t)) = true then _ else (Fm.mk o (if (o == 3) = true then zfy n t a else a) v _, _)) = _
     rw [hfp, hq, hvn, h3, hoc]
     simp only [Bool.true_and, Bool.false_or, Bool.false_eq_true, if_false]
     rfl
    have hP2 : zbt n t (.mk o a v ps) = if (!(zoo ps).contains n) = true then (.mk o a v ps, true) else if (voS t).contains v = true then (.mk o (.mk [] []) v [], false) else (.mk o a v ((ps.takeWhile fun x => (zbt n t x).2).map fun x => (zbt n t x).1), ps.all fun x => (zbt n t x).2) := by
     rw [hP]
     show (if (o == 3) = true then _ else if (isQ o && (v == n || !((zoo ps).contains n))) = true then _ else if (isQ o && (zba [] (voS t)).contains v) = true then _ else (Fm.mk o (.mk [] []) v _, _)) = _
     rw [hq, hvn, h3, hc2]
     simp only [Bool.true_and, Bool.false_or, Bool.false_eq_true, if_false]
     rw [<- ha]
     rfl
    cases hfc : (!(zoo ps).contains n)
    ·rw [hfc] at hS2 hP2
     simp only [Bool.false_eq_true, if_false] at hS2 hP2
     cases hvc : (voS t).contains v
     ·rw [hvc] at hS2 hP2
      simp only [Bool.false_eq_true, if_false] at hS2 hP2
      exact main hS2 hP2
     ·rw [hvc] at hS2 hP2
      simp only [if_true] at hS2 hP2
      rw [hS2, hP2]
      exact ⟨⟨fun h => (by cases h.1), fun h => (by cases h.1)⟩, fun h => (by cases h)⟩
    ·rw [hfc] at hS2 hP2
     simp only [if_true] at hS2 hP2
     rw [hS2, hP2]
     exact ⟨Iff.rfl, fun _ _ => rfl⟩
   ·have hS2 : zdj n t (.mk o a v ps) = (.mk o a v ps, true) := by
     rw [hS]
     show (if (isQ o && (v == n || _)) = true then _ else _) = _
     rw [hq, hvn]
     simp only [Bool.true_and, Bool.true_or, if_true]
    have hP2 : zbt n t (.mk o a v ps) = (.mk o a v ps, true) := by
     rw [hP]
     show (if (o == 3) = true then _ else if (isQ o && (v == n || _)) = true then _ else _) = _
     rw [hq, hvn, h3]
     simp only [Bool.true_and, Bool.true_or, if_true, Bool.false_eq_true, if_false]
    rw [hS2, hP2]
    exact ⟨Iff.rfl, fun _ _ => rfl⟩
 ·have ho3 : o = 3 := by simpa using h3
  obtain ⟨hat, hp⟩ := zib (f := .mk o a v ps) hh ho3
  have hp : ps = [] := hp
  have hat : a.atomOk = true := hat
  have hq : isQ o = false := by rw [ho3]; decide
  have hS2 : zdj n t (.mk o a v ps) = (.mk o (zfz (bnd n t) a) v [], true) := by
   rw [hS]
   show (if (isQ o && _) = true then _ else if (isQ o && _) = true then _ else (Fm.mk o (if (o == 3) = true then zfy n t a else a) v (ps.map _), ps.all _)) = _
   rw [hq, h3, hp]
   simp only [Bool.false_and, Bool.false_eq_true, if_false, if_true, List.map_nil, List.all_nil]
   rw [qb6 n t hn ht a hat]
  have hP2 : zbt n t (.mk o a v ps) = (.mk o (zfz (bnd n t) a) v [], (zfz (bnd n t) a).atomOk) := by
   rw [hP]
   show (if (o == 3) = true then _ else _) = _
   rw [h3]
   rfl
  rw [hS2, hP2]
  refine ⟨⟨fun h => ⟨?_, h.2⟩, fun h => ⟨rfl, h.2⟩⟩, fun _ _ => rfl⟩
  have := h.2
  rw [zj4, Bool.and_eq_true] at this
  exact (zib (f := .mk o (zfz (bnd n t) a) v []) this.1 ho3).1
theorem zeh {f : Fm} (h : f.good = true) : f.forms = true := (Bool.and_eq_true _ _ ▸ h : _ /\ _).2
noncomputable def sbF (n : Str) (t : Tm) (f : Fm) : Fm × Bool := if (f.good && zbc n && t.good && (zdj n t f).2 && (zdj n t f).1.good) = true then ((zdj n t f).1, true) else (mkF 0 [], false)
theorem qe3 (n : Str) (t : Tm) (hn : zbc n = true) (ht : t.names = true) (f : Fm) (hf : f.forms = true) : ((zdj n t f).2 && (zdj n t f).1.good) = ((zbt n t f).2 && (zbt n t f).1.good) := by
 obtain ⟨h1, h2⟩ := qdd n t hn ht f hf
 rw [Bool.eq_iff_iff, Bool.and_eq_true, Bool.and_eq_true]
 unfold Fm.good
 rw [Bool.and_eq_true, Bool.and_eq_true]
 constructor
 ·rintro ⟨a, b, c⟩
  obtain ⟨p, q⟩ := h1.1 ⟨a, c⟩
  exact ⟨p, by rw [<- h2 p q]; exact b, q⟩
 ·rintro ⟨a, b, c⟩
  obtain ⟨p, q⟩ := h1.2 ⟨a, c⟩
  exact ⟨p, by rw [h2 a c]; exact b, q⟩
theorem zhh (f : Fm) (n : Str) (t : Tm) (hw : f.wt <= 1048576) (ht : t.wt <= 1048576) (hb : f.wt + (1 + f.wt) * t.wt <= 1099511627776) : FC Tryz.prog 164 [fmD f, sD n, tmD t] [fmD (sbF n t f).1, bD (sbF n t f).2] := by
 have hv : sbF n t f = if (f.good && zbc n && t.good && (zdj n t f).2 && (zdj n t f).1.good) = true then ((zdj n t f).1, true) else (mkF 0 [], false) := rfl
 have HF := zcf f (by omega)
 have HN := zdz n
 have HT := zhl t (by omega)
 cases hg : f.good
 ·rw [hg] at hv HF
  simp only [Bool.false_and, Bool.false_eq_true, if_false] at hv
  rw [hv]
  simp only [fmD, zaa f, tmD, zab t, zin, List.map_nil] at HF ⊢
  refine zag Tryz.call164 Tryz.func164 rfl (by kernel_rfl) (zau (by kernel_rfl)) ?_
  simp -implicitDefEqProofs only [go_sem, Tryz.results164]
  refine callF (HF) (by simp -implicitDefEqProofs only [go_sem]) ?_
  simp -implicitDefEqProofs only [go_sem]
 ·cases hn : zbc n
  ·rw [hg, hn] at hv
   rw [hg] at HF
   rw [hn] at HN
   simp only [Bool.false_and, Bool.true_and, Bool.false_eq_true, if_false] at hv
   rw [hv]
   simp only [fmD, zaa f, tmD, zab t, zin, List.map_nil] at HF ⊢
   refine zag Tryz.call164 Tryz.func164 rfl (by kernel_rfl) (zau (by kernel_rfl)) ?_
   simp -implicitDefEqProofs only [go_sem, Tryz.results164]
   refine callF (HF) (by simp -implicitDefEqProofs only [go_sem]) ?_
   simp -implicitDefEqProofs only [go_sem]
   refine callF (HN) (by simp -implicitDefEqProofs only [go_sem]) ?_
   simp -implicitDefEqProofs only [go_sem]
  ·cases htg : t.good
   ·rw [hg, hn, htg] at hv
    rw [hg] at HF
    rw [hn] at HN
    rw [htg] at HT
    simp only [Bool.false_and, Bool.true_and, Bool.false_eq_true, if_false] at hv
    rw [hv]
    simp only [fmD, zaa f, tmD, zab t, zin, List.map_nil] at HF HT ⊢
    refine zag Tryz.call164 Tryz.func164 rfl (by kernel_rfl) (zau (by kernel_rfl)) ?_
    simp -implicitDefEqProofs only [go_sem, Tryz.results164]
    refine callF (HF) (by simp -implicitDefEqProofs only [go_sem]) ?_
    simp -implicitDefEqProofs only [go_sem]
    refine callF (HN) (by simp -implicitDefEqProofs only [go_sem]) ?_
    simp -implicitDefEqProofs only [go_sem]
    refine callF (HT) (by simp -implicitDefEqProofs only [go_sem]) ?_
    simp -implicitDefEqProofs only [go_sem]
   ·rw [hg, hn, htg] at hv
    rw [hg] at HF
    rw [hn] at HN
    rw [htg] at HT
    have HS := zne n t ht f (zeh hg) hw
    have hwt := qm3 n t f
    generalize (zdj n t f).1 = R at HS hv hwt
    simp only [Bool.true_and] at hv
    cases hok : (zdj n t f).2
    ·rw [hok] at hv HS
     simp only [Bool.false_and, Bool.false_eq_true, if_false] at hv
     rw [hv]
     simp only [fmD, zaa f, tmD, zab t, zaa R, zin, List.map_nil] at HF HT HS ⊢
     refine zag Tryz.call164 Tryz.func164 rfl (by kernel_rfl) (zau (by kernel_rfl)) ?_
     simp -implicitDefEqProofs only [go_sem, Tryz.results164]
     refine callF (HF) (by simp -implicitDefEqProofs only [go_sem]) ?_
     simp -implicitDefEqProofs only [go_sem]
     refine callF (HN) (by simp -implicitDefEqProofs only [go_sem]) ?_
     simp -implicitDefEqProofs only [go_sem]
     refine callF (HT) (by simp -implicitDefEqProofs only [go_sem]) ?_
     simp -implicitDefEqProofs only [go_sem]
     refine callF (HS) (by simp -implicitDefEqProofs only [go_sem]) ?_
     simp -implicitDefEqProofs only [go_sem]
    ·rw [hok] at hv HS
     have HI := zrz R (by omega)
     simp only [Bool.true_and] at hv
     have hv2 : sbF n t f = ((if R.good = true then R else mkF 0 []), R.good) := by rw [hv]; cases R.good <;> rfl
     rw [hv2]
     generalize (if R.good = true then R else mkF 0 []) = Z at HI ⊢
     generalize R.good = G at HI ⊢
     simp only [fmD, zaa f, tmD, zab t, zaa R, zaa Z] at HF HT HS HI ⊢
     refine zag Tryz.call164 Tryz.func164 rfl (by kernel_rfl) (zau (by kernel_rfl)) ?_
     simp -implicitDefEqProofs only [go_sem, Tryz.results164]
     refine callF (HF) (by simp -implicitDefEqProofs only [go_sem]) ?_
     simp -implicitDefEqProofs only [go_sem]
     refine callF (HN) (by simp -implicitDefEqProofs only [go_sem]) ?_
     simp -implicitDefEqProofs only [go_sem]
     refine callF (HT) (by simp -implicitDefEqProofs only [go_sem]) ?_
     simp -implicitDefEqProofs only [go_sem]
     refine callF (HS) (by simp -implicitDefEqProofs only [go_sem]) ?_
     simp -implicitDefEqProofs only [go_sem]
     refine zdw [6] [34] [] (HI) (by simp -implicitDefEqProofs only [go_sem]) (by simp -implicitDefEqProofs only [go_sem]) (by simp -implicitDefEqProofs only [go_sem]) (by simp -implicitDefEqProofs only [go_sem]) ?_
     simp -implicitDefEqProofs only [go_sem]
end Go.Proofs.YtemnhgmgeijkcaaGreat
namespace Go.Proofs.YtemnhgmgeijkcaaGreat
set_option linter.unusedSimpArgs false
set_option linter.unusedVariables false
set_option linter.unusedSectionVars false
set_option maxRecDepth 4000
open Go.RowKit
variable {P : Program}
attribute [go_sem] St.upEB
end Go.Proofs.YtemnhgmgeijkcaaGreat
namespace Go.Proofs.YtemnhgmgeijkcaaGreat
set_option linter.unusedSimpArgs false
set_option linter.unusedVariables false
set_option linter.unusedSectionVars false
set_option maxRecDepth 4000
open Go.RowKit
variable {P : Program}
section
variable {ks : List Fr} {Q : Exit -> St -> Prop} {σ : St} {ops : Array Oper} {os : List Oper} {L : List (List Ky × List Ky)} {d : Nat} {t : TypeId} {ty : TypeId} {ps : String} {af : Array Edge} {len : Nat} {parts : Array (Nat × Operand)}
theorem zkb (h : zax (blS P σ t len parts) fun _ => σ.ev (d * 32) = none)
  (k : exd P ops os (L ++ [(za1 (parts.toList.map (·.2)) ++ (rK (qe7 (zly P (σ.get P) t len parts)) ++ [(2, d * 32)]), dK (some d) ++ eK (blK d (blS P σ t len parts)))]) ks Q ((σ.bl d (blS P σ t len parts)).put (some d) (.one (.ow (d * 32) 0)))) :
  exd P ops (⟨some d, .buildSlice t len parts, ty, ps, af, none⟩ :: os) L ks Q σ := by
 obtain ⟨⟨x, cons⟩, h1, h2⟩ := zap h
 rw [h1] at k
 unfold blS at h1
 obtain ⟨p, e1, h1⟩ := Option.bind_eq_some_iff.1 h1
 obtain ⟨q, e2, h1⟩ := Option.map_eq_some_iff.1 h1
 simp only [Prod.mk.injEq] at h1
 obtain ⟨rfl, rfl⟩ := h1
 rw [e1] at k
 exact qj1 ⟨e1, e2, h2⟩ k
end
end Go.Proofs.YtemnhgmgeijkcaaGreat
namespace Go.Proofs.YtemnhgmgeijkcaaGreat
set_option linter.unusedSimpArgs false
set_option linter.unusedVariables false
set_option linter.unusedSectionVars false
set_option maxRecDepth 4000
open Go.RowKit
variable {P : Program} {N : Nat}
attribute [go_sem] Option.bind_some Option.map_some
end Go.Proofs.YtemnhgmgeijkcaaGreat
namespace Go.Proofs.YtemnhgmgeijkcaaGreat
set_option linter.unusedSimpArgs false
set_option linter.unusedVariables false
set_option linter.unusedSectionVars false
set_option maxRecDepth 4000
open Go.RowKit
theorem qjw {m : Str} (h : zbc m = true) (xs : List Tm) : (Tm.mk m xs).names = decide (xs.length = 0) := by rw [Tm.names_eq]; exact if_pos h
theorem qk9 {m : Str} (h : ¬ zbc m = true) (xs : List Tm) : (Tm.mk m xs).names = (zc4 m && decide (xs.length <= 4) && xs.all Tm.names) := by rw [Tm.names_eq]; exact if_neg h
def nmA (a : Tm) : Bool := if (a.name == [61]) = true then decide (a.args.length = 2) && a.args.all Tm.names else zc4 a.name && a.names
theorem zpi (a : Tm) : a.atomOk = (nmA a && zd7 a) := by
 unfold Tm.atomOk nmA Tm.good
 split
 ·rw [Bool.and_assoc, Bool.and_comm (zd7 a), Bool.and_assoc]
 ·rw [Bool.and_comm (zd7 a), Bool.and_assoc]
theorem nmA_eq {a : Tm} (h : nmA a = true) : zbc a.name = false /\ a.args.all Tm.names = true := by
 unfold nmA at h
 split at h
 ·rename_i he
  have he : a.name = [61] := by simpa using he
  rw [Bool.and_eq_true] at h
  rw [he]
  exact ⟨by decide, h.2⟩
 ·rw [Bool.and_eq_true] at h
  have hv := zyd h.1
  have h2 := h.2
  rw [Tm.names_eq, hv, if_neg (by simp)] at h2
  simp only [Bool.and_eq_true] at h2
  exact ⟨hv, h2.2⟩
theorem zvn {α : Type} (f g : α -> Nat) : ∀ (xs : List α), (∀ x ∈ xs, f x <= g x) -> (xs.map f).sum <= (xs.map g).sum
 | [], _ => Nat.le_refl _
 | x :: xs, H => by
  have := H x (by simp)
  have := zvn f g xs fun y hy => H y (by simp [hy])
  rw [List.map_cons, List.map_cons, List.sum_cons, List.sum_cons]; omega
theorem zv9 {α : Type} (f : α -> Nat) : ∀ xs : List α, (xs.map fun x => 8 * f x).sum = 8 * (xs.map f).sum
 | [] => rfl
 | x :: xs => by rw [List.map_cons, List.sum_cons, zv9 f xs, List.map_cons, List.sum_cons]; omega
theorem qa9 {α : Type} (w : α -> Nat) : ∀ xs : List α, (xs.map fun x => 1 + w x).sum = xs.length + (xs.map w).sum
 | [] => rfl
 | a :: l => by rw [List.map_cons, List.sum_cons, qa9 w l, List.length_cons, List.map_cons, List.sum_cons]; omega
theorem zpw {xs : List Tm} (H : ∀ x ∈ xs, 1 + x.wt <= 8 * x.nodes) : xs.length + (xs.map Tm.wt).sum <= 8 * (xs.map Tm.nodes).sum := by
 rw [<- qa9, <- zv9]
 exact zvn _ _ xs H
theorem zvv : ∀ a : Tm, a.names = true -> 1 + a.wt <= 8 * a.nodes := zbx fun m xs ih h => by
 have hw : (Tm.mk m xs).wt = m.length + xs.length + (xs.map Tm.wt).sum := Tm.wt_eq _
 have hn : (Tm.mk m xs).nodes = 1 + (xs.map Tm.nodes).sum := Tm.nodes_eq _
 rw [hw, hn]
 by_cases hm : zbc m = true
 ·rw [qjw hm] at h
  have hx : xs = [] := List.length_eq_zero_iff.1 (of_decide_eq_true h)
  subst hx
  unfold zbc inB at hm
  simp only [Bool.and_eq_true, decide_eq_true_eq] at hm
  simp only [List.map_nil, List.sum_nil, List.length_nil]
  omega
 ·rw [qk9 hm] at h
  simp only [Bool.and_eq_true] at h
  have h1 : zc4 m = true := h.1.1
  unfold zc4 inB at h1
  simp only [Bool.and_eq_true, decide_eq_true_eq] at h1
  have h2 := zpw fun x hx => ih x hx (List.all_eq_true.1 h.2 x hx)
  omega
theorem zqf {a : Tm} (h : a.atomOk = true) : a.wt <= 512 := by
 rw [zpi, Bool.and_eq_true] at h
 obtain ⟨h1, h2⟩ := h
 have h4 := (nmA_eq h1).2
 have hl : a.name.length <= 6 := by
  unfold nmA at h1
  split at h1
  ·rename_i he
   rw [beq_iff_eq.1 he]; simp
  ·rw [Bool.and_eq_true] at h1
   have h1 := h1.1
   unfold zc4 inB at h1
   simp only [Bool.and_eq_true, decide_eq_true_eq] at h1
   omega
 unfold zd7 at h2
 simp only [Bool.and_eq_true, decide_eq_true_eq] at h2
 have hn := a.nodes_eq
 have hw := a.wt_eq
 have h5 := zpw fun x hx => zvv x (List.all_eq_true.1 h4 x hx)
 omega
end Go.Proofs.YtemnhgmgeijkcaaGreat
namespace Go.Proofs.YtemnhgmgeijkcaaGreat
set_option linter.unusedSimpArgs false
set_option linter.unusedVariables false
set_option linter.unusedSectionVars false
set_option maxRecDepth 4000
open Go.RowKit
def evF : Fm -> (Tm -> Bool) -> Bool := Fm.fold fun o a _ _ rs v =>
 if (o == 1) = true then true else if (o == 3) = true then v a else if (o == 4) = true then !((rs.map fun r => r v).getD 0 false)
 else if (o == 5) = true then (rs.map fun r => r v).getD 0 false && (rs.map fun r => r v).getD 1 false
 else if (o == 6) = true then (rs.map fun r => r v).getD 0 false || (rs.map fun r => r v).getD 1 false
 else if (o == 7) = true then !((rs.map fun r => r v).getD 0 false) || (rs.map fun r => r v).getD 1 false else false
def evs (f : Fm) (v : Tm -> Bool) : List Bool := f.parts.map fun p => evF p v
end Go.Proofs.YtemnhgmgeijkcaaGreat
namespace Go.Proofs.YtemnhgmgeijkcaaGreat
set_option linter.unusedSimpArgs false
set_option linter.unusedVariables false
set_option linter.unusedSectionVars false
set_option maxRecDepth 4000
open Go.RowKit
theorem zcs {α : Type} {xs : List α} {k : Nat} (h : k < xs.length) (d : α) : xs.getD k d = xs[k] := by rw [List.getD_eq_getElem?_getD, List.getElem?_eq_getElem h]; rfl
end Go.Proofs.YtemnhgmgeijkcaaGreat
namespace Go.Proofs.YtemnhgmgeijkcaaGreat
set_option linter.unusedSimpArgs false
set_option linter.unusedVariables false
set_option linter.unusedSectionVars false
set_option maxRecDepth 4000
open Go.RowKit
theorem qdo {α : Type} (a b : α) : same a b = same b a := by
 rw [Bool.eq_iff_iff, zbs, zbs]; exact eq_comm
end Go.Proofs.YtemnhgmgeijkcaaGreat
namespace Go.Proofs.YtemnhgmgeijkcaaGreat
set_option linter.unusedSimpArgs false
set_option linter.unusedVariables false
set_option linter.unusedSectionVars false
set_option maxRecDepth 4000
open Go.RowKit
theorem zu7 {f : Fm} (h : f.here = true) (hq : isQ f.op = false) : f.var = [] := by
 unfold Fm.here at h
 rw [hq] at h
 simp only [Bool.false_eq_true, if_false] at h
 (repeat' split at h) <;> first | (simp only [Bool.and_eq_true, beq_iff_eq] at h; exact h.2) | cases h
end Go.Proofs.YtemnhgmgeijkcaaGreat
namespace Go.Proofs.YtemnhgmgeijkcaaGreat
set_option linter.unusedSimpArgs false
set_option linter.unusedVariables false
set_option linter.unusedSectionVars false
set_option maxRecDepth 4000
open Go.RowKit
variable {P : Program}
def VDn (σ : St) : List V -> List D -> Prop
 | [], ds => ds = []
 | v :: vs, ds => ∃ d ds', ds = d :: ds' /\ (VD σ v d \/ ∃ s sz, v = .one (.nl s) /\ d = .one (.pin (.slice none 0 0) (.sl sz []))) /\ VDn σ vs ds'
theorem VD.rep1 {n0 : Nat -> Prop} {N : Nat} {σ : St} {g : Gh} {a : Act} {w : World} (hR : Rel n0 N σ g a w) {x : V} {d : D} (h : VD σ x d) {v : Value} (hv : VR σ g w x v) : zyr w (· < w.heap.size) d v := by
 have : VDs σ [x] [d] := ⟨d, [], rfl, h, rfl⟩
 obtain ⟨_, _, e, h1, _⟩ := VDs.rep hR this (vs := [v]) ⟨v, [], rfl, hv, rfl⟩
 cases e
 exact h1
theorem VDn.rep {n0 : Nat -> Prop} {N : Nat} {σ : St} {g : Gh} {a : Act} {w : World} (hR : Rel n0 N σ g a w) : ∀ {xs : List V} {ds : List D}, VDn σ xs ds -> ∀ {vs : List Value}, VRl σ g w xs vs -> zbm w (· < w.heap.size) ds vs
 | [], ds, h, vs, hv => by rw [show ds = [] from h]; exact hv
 | x :: xs, ds, h, vs, hv => by
  obtain ⟨d, ds', rfl, h1, h2⟩ := h
  obtain ⟨v, vs', rfl, k1, k2⟩ := hv
  refine ⟨v, vs', rfl, ?_, VDn.rep hR h2 k2⟩
  rcases h1 with h1 | ⟨s, sz, rfl, rfl⟩
  ·exact VD.rep1 hR h1 k1
  ·have k1 : v = .slice none 0 0 := k1
   subst k1
   show zaw _ _ (.pin _ _) _
   unfold zaw
   refine ⟨rfl, ?_⟩
   unfold zaw
   exact ⟨none, 0, rfl, Nat.le_refl _, by simp, Or.inl rfl⟩
theorem zw2 {o : Oper} {σ : St} {x : Operand} {asx : Array Operand} {ts : Array TypeId} {f : FuncId} {cvs : List V} {d : Nat} {ds res : List D} (ho : o.op = .call ⟨.value x, asx, ts⟩) (hd : o.dst = some d)
  (h : FC P f ds res) (hc : za0 (σ.get P 0 x) = some (f, cvs)) (hv : VDn σ (σ.gets P asx ts ++ cvs) ds) (hf : zg5 d 0 (zbd res) σ.ev) : zak P o σ (σ.callF d res) := by
 intro n0 N g a w hR hn hdN
 obtain ⟨vs, h1, h2⟩ := zdd hR ho hc h.1
 unfold Oper.wp
 rw [h1]
 refine (h.use (VDn.rep hR hv h2)).mono ?_
 rintro e w' ⟨us, fp, rfl, o1, o2, o3, hb⟩
 obtain ⟨g', k1, k2, k3⟩ := New.cells (σ := σ) (g := g) (NB := (w.heap.size <= ·)) (w' := w') d (zbd res) _ fp 0 σ.ev g [] (New.refl _ _ _ _ hR.slc) (fun e h1 h2 => absurd h1 h2) hf o1.cells o2 (fun b hb' => ⟨o3 b hb', by simp⟩)
 have hR' := hR.after hn hb k1
 refine ⟨g', ?_, Bk.of_below hb hn, k1.A0, k1.R0⟩
 have hp := hR'.put (some d) (x := zlw (zyo d 0 res)) (v := zcp us) (zeb (zkq d 0 o1 (k3 _ _ rfl)) (zht d res 0)) (fun i hi => by cases hi; exact hdN d hd)
 rw [hd]
 exact hp
section
variable {ks : List Fr} {Q : Exit -> St -> Prop} {σ : St} {ops : Array Oper} {os : List Oper} {ty : TypeId} {ps : String} {af : Array Edge}
theorem callFn {d : Nat} {x : Operand} {asx : Array Operand} {ts : Array TypeId} {f : FuncId} {ds res : List D} (h : FC P f ds res) (hp : zax (za0 (σ.get P 0 x)) fun p => p.1 = f /\ VDn σ (σ.gets P asx ts ++ p.2) ds /\ zg5 d 0 (zbd res) σ.ev)
  (k : exo P ops os ks Q (σ.callF d res)) : exo P ops (⟨some d, .call ⟨.value x, asx, ts⟩, ty, ps, af, none⟩ :: os) ks Q σ := by
 obtain ⟨⟨f', cvs⟩, h1, rfl, h2, h3⟩ := zap hp
 exact zc0 rfl rfl (zw2 rfl rfl h h1 h2 h3) k
end
theorem vdn_nl (σ : St) (s sz : Nat) (vs : List V) (ds : List D) : VDn σ (.one (.nl s) :: vs) (.one (.pin (.slice none 0 0) (.sl sz [])) :: ds) = VDn σ vs ds := propext ⟨fun h => by
 obtain ⟨d, ds', e, _, h⟩ := h
 obtain ⟨rfl, rfl⟩ := List.cons.inj e
 exact h, fun h => ⟨_, _, rfl, Or.inr ⟨_, _, rfl, rfl⟩, h⟩⟩
theorem vdn_t (σ : St) (t : T) (vs : List V) (ds : List D) : VDn σ (.one (.t t) :: vs) (.one t :: ds) = VDn σ vs ds := propext ⟨fun h => by
 obtain ⟨d, ds', e, _, h⟩ := h
 obtain ⟨rfl, rfl⟩ := List.cons.inj e
 exact h, fun h => ⟨_, _, rfl, Or.inl rfl, h⟩⟩
theorem qmp (σ : St) : VDn σ [] [] = True := by unfold VDn; simp
end Go.Proofs.YtemnhgmgeijkcaaGreat
namespace Go.Proofs.YtemnhgmgeijkcaaGreat
set_option linter.unusedSimpArgs false
set_option linter.unusedVariables false
set_option linter.unusedSectionVars false
set_option maxRecDepth 4000
open Go.RowKit
section
variable {P : Program}
theorem ct0_A {n0 : Nat -> Prop} {N : Nat} {σ : St} {g : Gh} {a : Act} {w : World} (hR : Rel n0 N σ g a w) {c : C} {t : T} (h : CT0 σ c t) {v : Value} (hv : CR σ g w c v) : zaw w (fun b => b < w.heap.size /\ g.A0 b) t v := by
 have hF : ∀ b, Fix σ g w b -> b < w.heap.size /\ g.A0 b := fun b hb => ⟨hb.2.2.1, hb.2.2.2⟩
 have hFr : ∀ b, zc8 σ g w b -> b < w.heap.size /\ g.A0 b := fun b hb => hF b hb.1
 cases c with
 | t x =>
  have h : x = t := h
  subst h
  exact zaw.keep (fun _ _ => rfl) hF x v hv
 | rn x =>
  have h : x = t := h
  subst h
  exact zaw.keep (fun _ _ => rfl) hFr x v hv
 | nl s =>
  cases t with
  | sl sz rows =>
   have h : rows = [] := h
   subst h
   have hv : v = .slice none 0 0 := hv
   subst hv
   unfold zaw
   exact ⟨none, 0, rfl, Nat.le_refl _, by simp, Or.inl rfl⟩
  | _ => exact h.elim
 | ow e n =>
  cases t with
  | sl sz rows =>
   obtain ⟨d, o, he⟩ := h
   obtain ⟨rfl, -⟩ := hv
   cases o
   ·exact zaw.keep (fun _ _ => rfl) hF _ _ (hR.offs e _ he rfl).1
   ·have hOn : σ.On e := ⟨_, he, rfl⟩
    have hlt : ∀ b ∈ g.φ e, b < w.heap.size := (hR.evs e _ he rfl).lt
    obtain ⟨ao, cap, e1, e2, e3, e4⟩ := hR.evs e _ he rfl
    unfold zaw
    refine ⟨ao, cap, e1, e2, e3, ?_⟩
    rcases e4 with ⟨_, _, e4, _⟩ | ⟨b, cells, ty, fps, k1, k2, k3, k4, k5⟩
    ·exact Or.inl e4
    ·have hA : ∀ b' ∈ g.φ e, b' < w.heap.size /\ g.A0 b' := fun b' hb' => ⟨hlt b' hb', (hR.ebase e hOn b' hb').1⟩
     refine Or.inr ⟨b, 0, k1, hA b (by rw [k2]; simp), ?_⟩
     split at k5
     ·exact zam.rep b cells ty k3 0 sz rows fps k5 fun b' hb' => hA b' (by rw [k2]; simp [hb'])
     ·exact zay.keep (fun _ _ => rfl) hF b rfl 0 sz rows k5.2
  | _ => exact h.elim
 | el cs o =>
  cases t with
  | ptr cs' =>
   obtain ⟨rfl, rfl⟩ := h
   obtain ⟨b, q, h1, h2, h3⟩ := hv
   unfold zaw
   exact ⟨b, q, h1, hF b h2, zbh.keep (fun _ _ => rfl) hF b rfl q cs h3⟩
  | _ => exact h.elim
 | er cs o =>
  cases t with
  | ptr cs' =>
   obtain ⟨rfl, rfl⟩ := h
   obtain ⟨b, q, h1, h2, h3⟩ := hv
   unfold zaw
   exact ⟨b, q, h1, hFr b h2, zbh.keep (fun _ _ => rfl) hFr b rfl q cs h3⟩
  | _ => exact h.elim
 | _ => cases t <;> exact h.elim
theorem qi1 {n0 : Nat -> Prop} {N : Nat} {σ : St} {g : Gh} {a : Act} {w : World} (hR : Rel n0 N σ g a w) : ∀ {cs : List C} {ts : List T}, zp5 σ cs ts -> ∀ {vs : List Value}, CRs σ g w cs vs -> zai w (fun b => b < w.heap.size /\ g.A0 b) ts vs
 | [], ts, h, vs, hv => by rw [show ts = [] from h]; unfold zai; exact hv
 | c :: cs, ts, h, vs, hv => by
  obtain ⟨t, ts', rfl, h1, h2⟩ := h
  obtain ⟨v, vs', rfl, k1, k2⟩ := hv
  unfold zai
  exact ⟨v, vs', rfl, ct0_A hR h1 k1, qi1 hR h2 k2⟩
def RVe (σ : St) : List V -> List D -> Prop
 | [], [] => True
 | .one c :: vs, .one t :: ds => CT0 σ c t /\ RVe σ vs ds
 | .agg cs :: vs, .agg ts :: ds => zp5 σ cs ts /\ RVe σ vs ds
 | _, _ => False
theorem RVe.rep {n0 : Nat -> Prop} {N : Nat} {σ : St} {g : Gh} {a : Act} {w : World} (hR : Rel n0 N σ g a w) : ∀ {vs : List V} {ds : List D}, RVe σ vs ds -> ∀ {us : List Value}, VRl σ g w vs us -> zbm w (fun b => b < w.heap.size /\ g.A0 b) ds us
 | [], [], _, us, hv => hv
 | .one c :: vs, .one t :: ds, h, us, hv => by
  obtain ⟨u, us', rfl, k1, k2⟩ := hv
  exact ⟨u, us', rfl, ct0_A hR h.1 k1, RVe.rep hR h.2 k2⟩
 | .agg cs :: vs, .agg ts :: ds, h, us, hv => by
  obtain ⟨u, us', rfl, ⟨q, rfl, k1⟩, k2⟩ := hv
  exact ⟨_, us', rfl, ⟨q, rfl, qi1 hR h.1 k1⟩, RVe.rep hR h.2 k2⟩
 | [], _ :: _, h, _, _ => h.elim
 | .one _ :: _, [], h, _, _ => h.elim
 | .one _ :: _, .agg _ :: _, h, _, _ => h.elim
 | .agg _ :: _, [], h, _, _ => h.elim
 | .agg _ :: _, .one _ :: _, h, _, _ => h.elim
 | .tup _ :: _, [], h, _, _ => h.elim
 | .tup _ :: _, _ :: _, h, _, _ => h.elim
def PRe (P : Program) (rs : List ResultVar) (res : List D) (e : Exit) (σ : St) : Prop := match e with
 | .normal => zax (zb1 P σ rs) fun vs => RVe σ vs res
 | .ret => zax (zb1 P σ rs) fun vs => RVe σ vs res
 | _ => False
theorem zbf {f : FuncId} {fn : Func} {c : Code} {args res : List D} (hc : zbr P f) (hf : P.funcs[f]? = some fn) (hb : fn.body = some c) (hd : zec fn.ntmps c = true) (hN : (rd args).length <= fn.ntmps)
  (h : ex P c [] (PRe P fn.results.toList res) (zd3 (rd args))) : RC P f args res := by
 refine ⟨hc, fun w vs A hv => ?_⟩
 refine calls_of_wp hf hb ?_
 have hg : ∀ (ds : List D) (vs : List Value), zbm w (fun b => b < w.heap.size /\ A b) ds vs -> za5 w (fun b => b < w.heap.size /\ A b /\ b ∉ ([] : List Nat)) (rd ds) vs [] [] := by
  intro ds
  induction ds with
  | nil => intro vs h; exact ⟨h, rfl, rfl⟩
  | cons d ds ih =>
   rintro vs ⟨v, vs', rfl, h1, h2⟩
   refine ⟨v, vs', rfl, ?_, ih _ h2⟩
   cases d with
   | one t => exact zaw.keep (fun _ _ => rfl) (fun b hb => ⟨hb.1, hb.2, by simp⟩) t _ h1
   | agg ts => obtain ⟨a, h0, h1⟩ := h1; exact ⟨a, h0, zai.keep (fun _ _ => rfl) (fun b hb => ⟨hb.1, hb.2, by simp⟩) ts a h1⟩
 obtain ⟨g, hg, hR⟩ := Rel.start (A := A) (A0 := fun b => A b \/ w.heap.size <= b) (R0 := RP.of fun _ => True) (N := fn.ntmps) (hg _ _ hv) List.nodup_nil (zcu args) hN (fun _ hb => Or.inl hb) (fun b hb => by simp at hb) (fun b hb => ⟨Or.inr (by
  refine Nat.le_of_not_lt fun hlt => hb ⟨hlt, by simp⟩), trivial⟩)
 refine wp_mono (zby (w0 := w) c (zd3 (rd args)) _ hd h g _ w hR (fun k hk => hk.1) (Bk.refl _ _) hg) fun e a' w' hq => ?_
 obtain ⟨σ', g', h1, h2, h3, h4, h5⟩ := hq
 have key : zax (zb1 P σ' fn.results.toList) (fun vs => RVe σ' vs res) -> ∃ v, (results fn a'.tmps).run P w' = .ok v w' /\ ∃ us, Ending.returned v = .returned (zcp us) /\ zbm w' (fun b => b < w'.heap.size /\ (A b \/ w.heap.size <= b)) res us /\ Below w.heap.size w w' := fun hk => by
  unfold zax at hk
  split at hk
  ·rename_i vs hvs
   obtain ⟨us, r1, r2⟩ := zcn h2 fn hvs
   refine ⟨_, r1, us, rfl, (RVe.rep h2 hk r2).keep (fun _ _ => rfl) fun b hb => ⟨hb.1, ?_⟩, h4.os, h4.tape, h4.output, h4.size, fun k hk => h4.block k ⟨hk, by simp⟩⟩
   have := hb.2
   simp only [Prod.mk.injEq] at h5
   rw [h5.1] at this
   exact this
  ·exact hk.elim
 cases e with
 | normal => exact ⟨h2.defers, key h1⟩
 | ret => exact ⟨h2.defers, key h1⟩
 | exit _ => exact h1.elim
 | goto _ => exact h1.elim
 | panic _ => exact h1.elim
 | outgrown => exact h1.elim
attribute [go_sem] PRe RVe
end
end Go.Proofs.YtemnhgmgeijkcaaGreat
namespace Go.Proofs.YtemnhgmgeijkcaaGreat
set_option linter.unusedSimpArgs false
set_option linter.unusedVariables false
set_option linter.unusedSectionVars false
set_option maxRecDepth 4000
open Go.RowKit
theorem zse {f : Fm} (hf : f.forms = true) : ∀ p ∈ f.parts, p.forms = true := by
 rw [Fm.forms_eq, Bool.and_eq_true] at hf
 exact List.all_eq_true.1 hf.2
end Go.Proofs.YtemnhgmgeijkcaaGreat
namespace Go.Proofs.YtemnhgmgeijkcaaGreat
set_option linter.unusedSimpArgs false
set_option linter.unusedVariables false
set_option linter.unusedSectionVars false
set_option maxRecDepth 4000
open Go.RowKit
theorem qdp {o : Int} {a : Tm} {v : Str} {xs : List Fm} (h : (Fm.mk o a v xs).forms = true) : (Fm.mk o a v xs).here = true /\ ∀ x ∈ xs, x.forms = true := by
 rw [Fm.forms_eq, Bool.and_eq_true] at h
 exact ⟨h.1, List.all_eq_true.1 h.2⟩
theorem qij {o : Int} (h3 : (o == 3) = true) {a : Tm} {v : Str} {xs : List Fm} (h : (Fm.mk o a v xs).here = true) : o = 3 /\ xs = [] /\ v = [] /\ a.atomOk = true := by
 have e : o = 3 := by simpa using h3
 subst e
 rw [qd3] at h
 simp only [show ((3 : Int) == 1 || (3 : Int) == 2) = false from rfl, Bool.false_eq_true, if_false, h3, if_true, Bool.and_eq_true, decide_eq_true_eq, beq_iff_eq] at h
 exact ⟨rfl, List.length_eq_zero_iff.1 h.1.1, h.2, h.1.2⟩
theorem zka {t : Tm} (h : t.good = true) : t.names = true := by unfold Tm.good at h; rw [Bool.and_eq_true] at h; exact h.2
theorem zva : ∀ f : Fm, f.forms = true -> f.wt <= 520 * f.nodes := zcb fun o a v xs ih hf => by
 obtain ⟨hh, hx⟩ := qdp hf
 have hw : (Fm.mk o a v xs).wt = a.wt + v.length + xs.length + (xs.map Fm.wt).sum := Fm.wt_eq _
 have hn : (Fm.mk o a v xs).nodes = 1 + (xs.map Fm.nodes).sum := Fm.nodes_eq _
 have hs : (xs.map Fm.wt).sum <= (xs.map fun x => 520 * x.nodes).sum := zvn _ _ xs fun x hm => ih x hm (hx x hm)
 have hs2 : (xs.map fun x => 520 * x.nodes).sum = 520 * (xs.map Fm.nodes).sum := by
  clear hs hw hn hx hh hf ih
  induction xs with
  | nil => rfl
  | cons x xs ih2 => rw [List.map_cons, List.sum_cons, ih2, List.map_cons, List.sum_cons]; omega
 rw [hw, hn]
 cases h3 : o == 3
 ·have h3' : ((Fm.mk o a v xs).op == 3) = false := h3
  have ha : a = .mk [] [] := zrt hh h3'
  have haw : a.wt = 0 := by rw [ha]; rfl
  have hl : xs.length <= 2 /\ v.length <= 4 := by
   rcases zel hf with ⟨h1, h2⟩ | ⟨p, h1, _⟩ | ⟨o', p, q, _, h1, _⟩ | ⟨o', v', p, ho, h1, _⟩
   ·have h1 : xs = [] := h1
    refine ⟨by rw [h1]; simp, ?_⟩
    have := zu7 hh (by rcases h2 with h | h | h <;> (rw [h]; rfl))
    have this : v = [] := this
    rw [this]; simp
   ·cases h1; exact ⟨by simp, by simp⟩
   ·cases h1; exact ⟨by simp, by simp⟩
   ·cases h1
    refine ⟨by simp, ?_⟩
    have := zup hh (by rcases ho with h | h <;> (rw [show (Fm.mk o _ v [p]).op = o from rfl, h]; rfl))
    have this : zbc v = true := this
    unfold zbc inB at this
    simp only [Bool.and_eq_true, decide_eq_true_eq] at this
    omega
  omega
 ·obtain ⟨rfl, rfl, rfl, h4⟩ := qij h3 hh
  have := zqf h4
  simp only [List.length_nil, List.map_nil, List.sum_nil]
  omega
theorem zc2 {f : Fm} (h : f.good = true) : f.wt <= 20800 := by
 have h1 := zva f (zeh h)
 unfold Fm.good at h
 rw [Bool.and_eq_true, decide_eq_true_eq] at h
 omega
end Go.Proofs.YtemnhgmgeijkcaaGreat
namespace Go.Proofs.YtemnhgmgeijkcaaGreat
set_option linter.unusedSimpArgs false
set_option linter.unusedVariables false
set_option linter.unusedSectionVars false
set_option maxRecDepth 4000
open Go.RowKit
theorem qf0 {t : Tm} (h : t.good = true) : t.wt <= 240 := by
 have h1 := zvv t (zka h)
 unfold Tm.good zd7 at h
 simp only [Bool.and_eq_true, decide_eq_true_eq] at h
 omega
end Go.Proofs.YtemnhgmgeijkcaaGreat
namespace Go.Proofs.YtemnhgmgeijkcaaGreat
set_option linter.unusedSimpArgs false
set_option linter.unusedVariables false
set_option linter.unusedSectionVars false
set_option maxRecDepth 4000
open Go.RowKit
def onL (r : Int) : Bool := r == 1 || r == 3 || r == 5 || r == 7 || r == 9 || r == 11 || r == 13
def opL (r : Int) : Int := if r = 2 then 1 else if r = 3 \/ r = 4 then 4 else if r = 5 \/ r = 6 then 5 else if r = 7 \/ r = 8 then 6 else if r = 9 \/ r = 10 then 7 else if r = 11 \/ r = 12 then 8 else if r = 13 \/ r = 14 then 9 else 0
def qa3 (r : Int) : Bool := r == 11 || r == 14
def zao : Fm := mkF 0 []
def zhg (xs : List Fm) (gone : Int) (k : Nat) : List Fm := ((List.range k).filter fun i : Nat => !((i : Int) == gone)).map fun i => xs.getD i zao
def ze0 (xs : List Fm) (gone : Int) : List Fm := zhg xs gone xs.length
theorem zm8 (xs : List Fm) (g : Int) : zhg xs g 0 = [] := rfl
theorem zmr (xs : List Fm) (g : Int) {k : Nat} (h : k < xs.length) : zhg xs g (k + 1) = zhg xs g k ++ if ((k : Int) == g) = true then [] else [xs[k]] := by
 unfold zhg
 rw [List.range_succ, List.filter_append, List.map_append]
 congr 1
 cases hb : ((k : Int) == g)
 ·simp [hb, List.getD, h]
 ·simp [hb]
theorem zro (xs : List Fm) (g : Int) (k : Nat) : (zhg xs g k).length <= k := by
 unfold zhg
 rw [List.length_map]
 have := List.length_filter_le (fun i : Nat => !((i : Int) == g)) (List.range k)
 rw [List.length_range] at this
 exact this
theorem zej (xs : List Fm) (g : Int) : (ze0 xs g).Sublist xs := by
 have h : ((List.range xs.length).map fun i => xs.getD i zao) = xs := List.ext_getElem (by simp) fun i h1 h2 => by simp [List.getD, h2]
 have h2 : (ze0 xs g).Sublist ((List.range xs.length).map fun i => xs.getD i zao) := List.filter_sublist.map _
 rw [h] at h2
 exact h2
theorem zkg : ∀ {l1 l2 : List Fm}, l1.Sublist l2 -> zb5 l1 <= zb5 l2 := fun h => by
 induction h with
 | slnil => exact Nat.le_refl _
 | cons a _ ih => unfold zb5 at ih ⊢; rw [List.length_cons, List.map_cons, List.sum_cons]; omega
 | cons_cons a _ ih => unfold zb5 at ih ⊢; rw [List.length_cons, List.map_cons, List.sum_cons, List.length_cons, List.map_cons, List.sum_cons]; omega
theorem zwr (a b : List Fm) : zb5 (a ++ b) = zb5 a + zb5 b := by
 unfold zb5
 rw [List.length_append, List.map_append, List.sum_append]; omega
def zbg (s : Sq) (l : Int) (more : List Fm) (r : Int) (extra : List Fm) : Sq := ⟨ze0 s.left l ++ more, ze0 s.right r ++ extra⟩
def zem (s : Sq) (r : Int) : List Fm := if onL r = true then s.left else s.right
def zb0 (s : Sq) (d : Dv) : Fm := (zem s d.rule).getD d.main.toNat zao
def zbn (s : Sq) (d : Dv) : Bool := inB d.main 0 ((zem s d.rule).length - 1) && (opL d.rule == 0 || (zb0 s d).op == opL d.rule)
noncomputable def ze6 (s : Sq) (n : Str) : Bool := (s.left.any fun f => (zba [] (vf f [])).contains n) || s.right.any fun f => (zba [] (vf f [])).contains n
noncomputable def zhv (s : Sq) (d : Dv) (f : Fm) : List Sq × Bool :=
 if (!qa3 d.rule && (!zbc d.term.name || ze6 s d.term.name)) = true then ([], false)
 else if (sbF f.var d.term (f.parts.getD 0 zao)).2 = true then (if onL d.rule = true then ([⟨[(sbF f.var d.term (f.parts.getD 0 zao)).1], []⟩], true) else ([⟨[], [(sbF f.var d.term (f.parts.getD 0 zao)).1]⟩], true))
 else ([], false)
noncomputable def zck (s : Sq) (r : Int) (f : Fm) : List Sq × Bool :=
 if r = 1 then ([], f.op == 2 || s.right.any fun g => same f g)
 else if r = 2 then ([], true)
 else if r = 3 then ([⟨[], [f.parts.getD 0 zao]⟩], true)
 else if r = 4 then ([⟨[f.parts.getD 0 zao], []⟩], true)
 else if r = 5 then ([⟨f.parts, []⟩], true)
 else if r = 6 then ([⟨[], [f.parts.getD 0 zao]⟩, ⟨[], [f.parts.getD 1 zao]⟩], true)
 else if r = 7 then ([⟨[f.parts.getD 0 zao], []⟩, ⟨[f.parts.getD 1 zao], []⟩], true)
 else if r = 8 then ([⟨[], f.parts⟩], true)
 else if r = 9 then ([⟨[], [f.parts.getD 0 zao]⟩, ⟨[f.parts.getD 1 zao], []⟩], true)
 else ([⟨[f.parts.getD 0 zao], [f.parts.getD 1 zao]⟩], true)
noncomputable def adR (s : Sq) (d : Dv) : List Sq × Bool :=
 if d.rule = 15 then (if (d.main == 0 && d.term.none && d.cut.good) = true then ([⟨[], [d.cut]⟩, ⟨[d.cut], []⟩], true) else ([], false))
 else if (inB d.rule 1 15 && same d.cut zao && (inB d.rule 11 14 == !d.term.none) && zbn s d) = true then (if inB d.rule 11 14 = true then zhv s d (zb0 s d) else zck s d.rule (zb0 s d))
 else ([], false)
def zdk (d : Dv) (left : Bool) : Int := if (!(d.rule == 15) && !qa3 d.rule && (onL d.rule == left)) = true then d.main else -1
def zfa (s : Sq) (d : Dv) (x : Sq) : Sq := ⟨ze0 s.left (zdk d true) ++ x.left, ze0 s.right (zdk d false) ++ x.right⟩
noncomputable def prR (s : Sq) (d : Dv) : List Sq × Bool :=
 if ((adR s d).2 && ((adR s d).1.map (zfa s d)).all Sq.good) = true then ((adR s d).1.map (zfa s d), true) else ([], false)
noncomputable def znt (s : Sq) (d : Dv) : List Sq × Bool := if s.good = true then prR s d else ([], false)
noncomputable def qS (s : Sq) (d : Dv) (f : Fm) : List Sq × Bool :=
  if (d.term.good && (zbt f.var d.term (f.parts.getD 0 zao)).2) = true then
    (if d.rule = 11 then ([zbg s (-1) [(zbt f.var d.term (f.parts.getD 0 zao)).1] (-1) []], true)
     else if d.rule = 14 then ([zbg s (-1) [] (-1) [(zbt f.var d.term (f.parts.getD 0 zao)).1]], true)
     else if (!zbc d.term.name || ze6 s d.term.name) = true then ([], false)
     else if d.rule = 12 then ([zbg s (-1) [] d.main [(zbt f.var d.term (f.parts.getD 0 zao)).1]], true)
     else ([zbg s d.main [(zbt f.var d.term (f.parts.getD 0 zao)).1] (-1) []], true))
  else ([], false)
noncomputable def ruS (s : Sq) (d : Dv) : List Sq × Bool :=
 if ((!inB d.rule 11 14 && !d.term.none) || (!(d.rule == 15) && !same d.cut zao)) = true then ([], false)
 else if d.rule = 15 then ([zbg s (-1) [] (-1) [d.cut], zbg s (-1) [d.cut] (-1) []], d.main == 0 && d.cut.good)
 else if (inB d.rule 1 15 && zbn s d) = true then (if inB d.rule 11 14 = true then qS s d (zb0 s d) else ((zck s d.rule (zb0 s d)).1.map (zfa s d), (zck s d.rule (zb0 s d)).2))
 else ([], false)
noncomputable def prS (s : Sq) (d : Dv) : List Sq × Bool := if ((ruS s d).2 && (ruS s d).1.all Sq.good) = true then ((ruS s d).1, true) else ([], false)
theorem zf1 {s : Sq} {d : Dv} (h : zbn s d = true) : d.main.toNat < (zem s d.rule).length /\ 0 <= d.main /\ zb0 s d ∈ zem s d.rule := by
 unfold zbn inB at h
 simp only [Bool.and_eq_true, decide_eq_true_eq] at h
 obtain ⟨⟨h1, h2⟩, _⟩ := h
 have h3 : d.main.toNat < (zem s d.rule).length := by omega
 refine ⟨h3, h1, ?_⟩
 unfold zb0
 rw [List.getD, List.getElem?_eq_getElem h3]
 exact List.getElem_mem h3
theorem ze3 {s : Sq} (h : s.good = true) (r : Int) {x : Fm} (hx : x ∈ zem s r) : x.good = true := by
 unfold Sq.good zdp at h
 simp only [Bool.and_eq_true, List.all_eq_true] at h
 unfold zem at hx
 split at hx
 ·exact h.1.2 x hx
 ·exact h.2.2 x hx
theorem zmw {xs : List Fm} {ys : List Fm} {g : Int} (hx : zdp xs = true) : zdp (ze0 xs g ++ ys) = (decide ((ze0 xs g).length + ys.length <= 10) && ys.all Fm.good) := by
 unfold zdp at hx ⊢
 simp only [Bool.and_eq_true] at hx
 rw [List.length_append, List.all_append]
 have h1 : (ze0 xs g).all Fm.good = true := List.all_eq_true.2 fun x hm => List.all_eq_true.1 hx.2 x ((zej xs g).subset hm)
 rw [h1, Bool.true_and]
theorem zhr {s : Sq} (hs : s.good = true) {l r : Int} {a : Fm} (ha : a.good = false) : (zbg s l [a] r []).good = false /\ (zbg s l [] r [a]).good = false := by
 unfold Sq.good at hs ⊢
 rw [Bool.and_eq_true] at hs
 unfold zbg
 constructor
 ·show (zdp (ze0 s.left l ++ [a]) && _) = false
  rw [zmw hs.1, List.all_cons, ha]; simp
 ·show (_ && zdp (ze0 s.right r ++ [a])) = false
  rw [zmw hs.2, List.all_cons, ha]; simp
noncomputable def qez (p : List Sq × Bool) : List Sq × Bool := if (p.2 && p.1.all Sq.good) = true then (p.1, true) else ([], false)
theorem qd9 {p : List Sq × Bool} (h : p.2 = false) : qez p = ([], false) := by unfold qez; rw [h]; rfl
theorem zj7 {p : List Sq × Bool} {x : Sq} (h : p.1 = [x]) (hx : x.good = false) : qez p = ([], false) := by unfold qez; rw [h, List.all_cons, hx, Bool.false_and, Bool.and_false]; rfl
theorem qg3 {t : Tm} (h : t.none = true) : t.good = false := by
 unfold Tm.none at h
 rw [Bool.and_eq_true] at h
 cases hg : t.good
 ·rfl
 ·have h1 := zka hg
  rw [Tm.names_eq] at h1
  have e : t.name = [] := by simpa using h.1
  rw [e] at h1
  cases h1
theorem zfn {f : Fm} (hf : f.good = true) (ho : f.op = 8 \/ f.op = 9) : (f.parts.getD 0 zao).good = true /\ f.parts = [f.parts.getD 0 zao] /\ zbc f.var = true := by
 have hF := zeh hf
 have hh : f.here = true := by rw [Fm.forms_eq, Bool.and_eq_true] at hF; exact hF.1
 have hv := zup hh (by unfold isQ; rcases ho with h | h <;> rw [h] <;> rfl)
 have h0 : f.parts = [f.parts.getD 0 zao] /\ f.parts.getD 0 zao ∈ f.parts := by
  rcases zel hF with ⟨h1, h2⟩ | ⟨p, h1, _⟩ | ⟨o', p, q, h2, h1, _⟩ | ⟨o', v', p, _, h1, _⟩
  ·exfalso; omega
  ·exfalso; rw [h1] at ho; rcases ho with h | h <;> cases h
  ·exfalso; rw [h1] at ho; have : (mkF o' [p, q]).op = o' := rfl; omega
  ·rw [h1]
   exact ⟨rfl, List.mem_singleton.2 rfl⟩
 refine ⟨?_, h0.1, hv⟩
 have h3 := zse hF _ h0.2
 have h4 := zxy h0.2
 unfold Fm.good at hf ⊢
 rw [Bool.and_eq_true, decide_eq_true_eq] at hf ⊢
 exact ⟨by omega, h3⟩
theorem qb0 {s : Sq} {d : Dv} (hs : s.good = true) (hr : inB d.rule 11 14 = true) (hm : zbn s d = true) : qez ((zhv s d (zb0 s d)).1.map (zfa s d), (zhv s d (zb0 s d)).2) = qez (qS s d (zb0 s d)) := by
 have hmem := (zf1 hm).2.2
 have hg := ze3 hs d.rule hmem
 have hr' : d.rule = 11 \/ d.rule = 12 \/ d.rule = 13 \/ d.rule = 14 := by
  unfold inB at hr; simp only [Bool.and_eq_true, decide_eq_true_eq] at hr; omega
 have hop : (zb0 s d).op = 8 \/ (zb0 s d).op = 9 := by
  unfold zbn at hm
  rw [Bool.and_eq_true] at hm
  rcases hr' with h | h | h | h <;> (rw [h] at hm; have h2 := hm.2; simp [opL] at h2; first | exact Or.inl h2 | exact Or.inr h2)
 obtain ⟨hpg, _, hv⟩ := zfn hg hop
 unfold zhv qS
 generalize hf : zb0 s d = f at hpg hv
 generalize f.parts.getD 0 zao = p at hpg ⊢
 have hpf := zeh hpg
 cases htg : d.term.good
 ·have e : (sbF f.var d.term p).2 = false := by unfold sbF; rw [htg]; simp
  rw [e]
  simp only [Bool.false_and, Bool.false_eq_true, if_false, ite_self] <;> rfl
 ·have hsg := qe3 f.var d.term hv (zka htg) p hpf
  obtain ⟨_, hsp⟩ := qdd f.var d.term hv (zka htg) p hpf
  rw [Bool.true_and]
  have e : sbF f.var d.term p = if ((zbt f.var d.term p).2 && (zbt f.var d.term p).1.good) = true then ((zdj f.var d.term p).1, true) else (mkF 0 [], false) := by
   unfold sbF; rw [htg, hpg, hv, <- hsg]; simp
  cases hp2 : (zbt f.var d.term p).2
  ·rw [e, hp2]
   simp only [Bool.false_and, Bool.false_eq_true, if_false, ite_self] <;> rfl
  ·rw [if_pos rfl]
   cases hag : (zbt f.var d.term p).1.good
   ·refine Eq.trans (b := ([], false)) ?_ ?_
    ·rw [e, hp2, hag]
     simp only [Bool.and_false, Bool.false_eq_true, if_false, ite_self] <;> rfl
    symm
    split
    ·exact zj7 rfl (zhr hs hag).1
    ·split
     ·exact zj7 rfl (zhr hs hag).2
     ·split
      ·rfl
      ·split
       ·exact zj7 rfl (zhr hs hag).2
       ·exact zj7 rfl (zhr hs hag).1
   ·rw [e, hp2, hag, Bool.and_true, if_pos rfl, if_pos rfl, hsp hp2 (zeh hag)]
    generalize (zbt f.var d.term p).1 = a
    refine congrArg qez ?_
    rcases hr' with h | h | h | h
    ·have g : ∀ l, zdk d l = -1 := fun l => by unfold zdk; rw [h]; rfl
     unfold zfa
     simp only [g]
     rw [h]
     simp [qa3, onL, zbg]
    ·have g1 : zdk d true = -1 := by unfold zdk; rw [h]; rfl
     have g2 : zdk d false = d.main := by unfold zdk; rw [h]; rfl
     unfold zfa
     simp only [g1, g2]
     rw [h]
     cases hc : (!zbc d.term.name || ze6 s d.term.name) <;> simp [qa3, onL, zbg]
    ·have g1 : zdk d true = d.main := by unfold zdk; rw [h]; rfl
     have g2 : zdk d false = -1 := by unfold zdk; rw [h]; rfl
     unfold zfa
     simp only [g1, g2]
     rw [h]
     cases hc : (!zbc d.term.name || ze6 s d.term.name) <;> simp [qa3, onL, zbg]
    ·have g : ∀ l, zdk d l = -1 := fun l => by unfold zdk; rw [h]; rfl
     unfold zfa
     simp only [g]
     rw [h]
     simp [qa3, onL, zbg]
theorem qj6 (s : Sq) (d : Dv) (hs : s.good = true) : prR s d = prS s d := by
 show qez ((adR s d).1.map (zfa s d), (adR s d).2) = qez (ruS s d)
 unfold adR ruS
 by_cases h15 : d.rule = 15
 ·have e0 : inB d.rule 11 14 = false := by rw [h15]; rfl
  have e1 : (d.rule == 15) = true := by rw [h15]; rfl
  have g : ∀ l, zdk d l = -1 := fun l => by unfold zdk; rw [h15]; rfl
  rw [if_pos h15, if_pos h15, e0, e1]
  cases hn : d.term.none
  ·rw [Bool.and_false, Bool.false_and, if_neg (by simp), if_pos (by simp)]; rfl
  ·rw [Bool.and_true, if_neg (show ¬ ((!false && !true) || (!true && !same d.cut zao)) = true by simp)]
   cases hc : (d.main == 0 && d.cut.good)
   ·rw [if_neg (by simp)]
    rw [qd9 rfl, qd9 rfl]
   ·rw [if_pos rfl]
    refine congrArg qez ?_
    unfold zfa
    simp only [g]
    rfl
 ·have e1 : (d.rule == 15) = false := by rw [beq_eq_false_iff_ne]; exact h15
  rw [if_neg h15, if_neg h15, e1]
  cases hcz : same d.cut zao
  ·rw [if_neg (by simp), if_pos (by simp)]; rfl
  ·cases hin : inB d.rule 1 15
   ·rw [if_neg (by simp), if_neg (show ¬ (false && zbn s d) = true by simp)]
    split <;> rfl
   ·cases hq : inB d.rule 11 14 <;> cases hn : d.term.none
    ·rw [if_neg (by simp), if_pos (by simp)]; rfl
    ·cases hm : zbn s d
     ·rw [if_neg (by simp), if_neg (by simp), if_neg (by simp)]; rfl
     ·rw [if_pos (by simp), if_neg (by simp), if_neg (by simp), if_pos (by simp), if_neg (by simp)]
    ·cases hm : zbn s d
     ·rw [if_neg (by simp), if_neg (by simp), if_neg (by simp)]; rfl
     ·rw [if_pos (by simp), if_pos (by simp), if_neg (by simp), if_pos (by simp), if_pos (by simp)]
      exact qb0 hs hq hm
    ·have hb := qg3 hn
     cases hm : zbn s d
     ·rw [if_neg (by simp), if_neg (by simp), if_neg (by simp)]; rfl
     ·rw [if_neg (by simp), if_neg (by simp), if_pos (by simp), if_pos (by simp)]
      unfold qS
      rw [hb, Bool.false_and, if_neg (by simp)]; rfl
theorem zg6 {s : Sq} (hs : s.good = true) : s.left.length <= 10 /\ s.right.length <= 10 /\ (∀ x ∈ s.left, x.good = true) /\ ∀ x ∈ s.right, x.good = true := by
 unfold Sq.good zdp at hs
 simp only [Bool.and_eq_true, decide_eq_true_eq, List.all_eq_true] at hs
 exact ⟨hs.1.1, hs.2.1, hs.1.2, hs.2.2⟩
theorem zj8 {f : Fm} (hf : f.good = true) (ho : f.op = 4) : ∃ p, f.parts = [p] := by
 rcases zel (zeh hf) with ⟨h1, h2⟩ | ⟨p, h1, _⟩ | ⟨o', p, q, h2, h1, _⟩ | ⟨o', v', p, h2, h1, _⟩
 ·exfalso; omega
 ·exact ⟨p, by rw [h1]; rfl⟩
 ·exfalso; rw [h1] at ho; have : (mkF o' [p, q]).op = o' := rfl; omega
 ·exfalso; rw [h1] at ho; have : (Fm.mk o' (.mk [] []) v' [p]).op = o' := rfl; omega
theorem zc3 {f : Fm} (hf : f.good = true) (ho : f.op = 5 \/ f.op = 6 \/ f.op = 7) : ∃ p q, f.parts = [p, q] := by
 rcases zel (zeh hf) with ⟨h1, h2⟩ | ⟨p, h1, _⟩ | ⟨o', p, q, h2, h1, _⟩ | ⟨o', v', p, h2, h1, _⟩
 ·exfalso; omega
 ·exfalso; rw [h1] at ho; have : (mkF 4 [p]).op = 4 := rfl; omega
 ·exact ⟨p, q, by rw [h1]; rfl⟩
 ·exfalso; rw [h1] at ho; have : (Fm.mk o' (.mk [] []) v' [p]).op = o' := rfl; omega
theorem qal {s : Sq} {d : Dv} (h : zbn s d = true) : opL d.rule = 0 \/ (zb0 s d).op = opL d.rule := by
 unfold zbn at h
 rw [Bool.and_eq_true, Bool.or_eq_true, beq_iff_eq, beq_iff_eq] at h
 exact h.2
end Go.Proofs.YtemnhgmgeijkcaaGreat
namespace Go.Proofs.YtemnhgmgeijkcaaGreat
set_option linter.unusedSimpArgs false
set_option linter.unusedVariables false
set_option linter.unusedSectionVars false
set_option maxRecDepth 4000
open Go.RowKit
theorem zp2 (xs more : List Fm) (g : Int) (hx : ∀ x ∈ xs, x.wt <= 1048576) (hm : ∀ x ∈ more, x.wt <= 1048576) (hl : xs.length + more.length <= 1048576) : FC Tryz.prog 218 [.one (fmS xs), iD g, .one (fmS more)] [.one (fmS (ze0 xs g ++ more))] := by
 refine zag Tryz.call218 Tryz.func218 rfl (by kernel_rfl) (zau (by kernel_rfl)) ?_
 simp -implicitDefEqProofs only [go_sem, Tryz.results218]
 refine zal (by simp -implicitDefEqProofs only [go_sem]) ?_
 simp -implicitDefEqProofs only [go_sem]
 refine zad (fun k : Nat => hd [(0, vT (fmS xs)), (1, vI g), (2, vT (fmS more)), (7, .one (.ow 320 (zhg xs g k).length)), (8, vI k)] [] [(320, ⟨true, 5, (zhg xs g k).map fmC, (zhg xs g k).length, true⟩)]) (fun k => k <= xs.length) (fun k => xs.length - k) 0 (zac ?_) (Nat.zero_le _) ?_
 ·simp -implicitDefEqProofs only [go_sem, zm8]
 ·intro k hk
  have hul := zro xs g k
  have hul2 : (zhg xs g k).length <= 4294967295 := by omega
  by_cases hlt : k < xs.length
  ·have hs := zmr xs g hlt
   have HO := zr5 xs[k] (hx _ (List.getElem_mem hlt))
   cases hb : ((k : Int) == g)
   ·rw [hb, if_neg (by simp)] at hs
    have hne : ((k : Int) != g) = true := by unfold bne; rw [hb]; rfl
    simp -implicitDefEqProofs only [go_sem, zaf, hlt, hne, zaa xs[k]]
    refine callF (HO) (by simp -implicitDefEqProofs only [go_sem, zaa]) ?_
    simp -implicitDefEqProofs only [go_sem, zaa]
    refine zal (by simp -implicitDefEqProofs only [go_sem]) ?_
    simp -implicitDefEqProofs only [go_sem]
    refine apD true (by simp -implicitDefEqProofs only [go_sem, ne_eq, List.length_map, hul2]) ?_
    simp -implicitDefEqProofs only [go_sem, ne_eq, List.length_map, hul2]
    refine ⟨k + 1, hlt, by omega, zac ?_⟩
    simp -implicitDefEqProofs only [go_sem]
    rw [zas (by omega), hs, List.length_append, List.length_singleton, List.map_append, List.map_singleton, zaa xs[k]]
    exact ⟨rfl, rfl⟩
   ·rw [hb, if_pos rfl, List.append_nil] at hs
    have hne : ((k : Int) != g) = false := by unfold bne; rw [hb]; rfl
    simp -implicitDefEqProofs only [go_sem, hlt, hne]
    refine ⟨k + 1, hlt, by omega, zac ?_⟩
    simp -implicitDefEqProofs only [go_sem]
    rw [zas (by omega), hs]
    exact ⟨rfl, rfl⟩
  ·have hkn : k = xs.length := by omega
   subst hkn
   have hD : zhg xs g xs.length = ze0 xs g := rfl
   rw [hD] at hul ⊢
   generalize ze0 xs g = ys at hul ⊢
   simp -implicitDefEqProofs only [go_sem, hlt]
   refine zad (fun k : Nat => hd [(2, vT (fmS more)), (7, .one (.ow 320 (ys.length + k))), (9, vI k)] [] [(320, ⟨true, 5, ys.map fmC ++ (more.take k).map fmC, ys.length + k, true⟩)]) (fun k => k <= more.length) (fun k => more.length - k) 0 (zac ?_) (Nat.zero_le _) ?_
   ·simp -implicitDefEqProofs only [go_sem, List.take_zero, List.map_nil, List.append_nil]
   ·intro k hk
    by_cases hlt : k < more.length
    ·have HO := zr5 more[k] (hm _ (List.getElem_mem hlt))
     have hmin : ys.length + min k more.length <= 4294967295 := by omega
     simp -implicitDefEqProofs only [go_sem, zaf, hlt, zaa more[k]]
     refine callF (HO) (by simp -implicitDefEqProofs only [go_sem, zaa]) ?_
     simp -implicitDefEqProofs only [go_sem, zaa]
     refine zal (by simp -implicitDefEqProofs only [go_sem]) ?_
     simp -implicitDefEqProofs only [go_sem]
     refine apD true (by simp -implicitDefEqProofs only [go_sem, ne_eq, List.length_map, List.length_append, List.length_take, hmin]) ?_
     simp -implicitDefEqProofs only [go_sem, ne_eq, List.length_map, List.length_append, List.length_take, hmin]
     refine ⟨k + 1, hlt, by omega, zac ?_⟩
     simp -implicitDefEqProofs only [go_sem]
     rw [zas (by omega), List.take_succ_eq_append_getElem hlt, List.map_append, List.map_singleton, zaa more[k], List.append_assoc]
     exact ⟨rfl, rfl⟩
    ·have ht : more.take k = more := List.take_of_length_le (by omega)
     simp -implicitDefEqProofs only [go_sem, hlt, ht]
     rw [List.map_append]
theorem qbt (s : Sq) (l r : Int) (more extra : List Fm) (hx : ∀ x ∈ s.left, x.wt <= 1048576) (hy : ∀ x ∈ s.right, x.wt <= 1048576) (hm : ∀ x ∈ more, x.wt <= 1048576) (he : ∀ x ∈ extra, x.wt <= 1048576) (hl : s.left.length + more.length <= 1048576) (hl2 : s.right.length + extra.length <= 1048576) : FC Tryz.prog 149 [sqD s, iD l, .one (fmS more), iD r, .one (fmS extra)] [sqD (zbg s l more r extra)] := by
 have H1 := zp2 s.left more l hx hm hl
 have H2 := zp2 s.right extra r hy he hl2
 unfold zbg
 simp only [sqD, zah]
 refine zag Tryz.call149 Tryz.func149 rfl (by kernel_rfl) (zau (by kernel_rfl)) ?_
 simp -implicitDefEqProofs only [go_sem, Tryz.results149]
 refine drawn (by kernel_rfl) ?_
 simp -implicitDefEqProofs only [go_sem]
 refine zan (H1) (by simp -implicitDefEqProofs only [go_sem]) ?_
 simp -implicitDefEqProofs only [go_sem]
 refine zan (H2) (by simp -implicitDefEqProofs only [go_sem]) ?_
 simp -implicitDefEqProofs only [go_sem]
 kernel_rfl
theorem onL_c (r : Int) : FC Tryz.prog 197 [iD r] [bD (onL r)] := by
 unfold onL
 cases h1 : (r == 1)
 ·cases h3 : (r == 3)
  ·cases h5 : (r == 5)
   ·cases h7 : (r == 7)
    ·cases h9 : (r == 9)
     ·cases h11 : (r == 11)
      ·cases h13 : (r == 13)
       ·refine zag Tryz.call197 Tryz.func197 rfl (by kernel_rfl) (zau (by kernel_rfl)) ?_
        simp -implicitDefEqProofs only [go_sem, Tryz.results197, h1, h3, h5, h7, h9, h11, h13]
        rfl
       ·refine zag Tryz.call197 Tryz.func197 rfl (by kernel_rfl) (zau (by kernel_rfl)) ?_
        simp -implicitDefEqProofs only [go_sem, Tryz.results197, h1, h3, h5, h7, h9, h11, h13]
        rfl
      ·refine zag Tryz.call197 Tryz.func197 rfl (by kernel_rfl) (zau (by kernel_rfl)) ?_
       simp -implicitDefEqProofs only [go_sem, Tryz.results197, h1, h3, h5, h7, h9, h11]
       rfl
     ·refine zag Tryz.call197 Tryz.func197 rfl (by kernel_rfl) (zau (by kernel_rfl)) ?_
      simp -implicitDefEqProofs only [go_sem, Tryz.results197, h1, h3, h5, h7, h9]
      rfl
    ·refine zag Tryz.call197 Tryz.func197 rfl (by kernel_rfl) (zau (by kernel_rfl)) ?_
     simp -implicitDefEqProofs only [go_sem, Tryz.results197, h1, h3, h5, h7]
     rfl
   ·refine zag Tryz.call197 Tryz.func197 rfl (by kernel_rfl) (zau (by kernel_rfl)) ?_
    simp -implicitDefEqProofs only [go_sem, Tryz.results197, h1, h3, h5]
    rfl
  ·refine zag Tryz.call197 Tryz.func197 rfl (by kernel_rfl) (zau (by kernel_rfl)) ?_
   simp -implicitDefEqProofs only [go_sem, Tryz.results197, h1, h3]
   rfl
 ·refine zag Tryz.call197 Tryz.func197 rfl (by kernel_rfl) (zau (by kernel_rfl)) ?_
  simp -implicitDefEqProofs only [go_sem, Tryz.results197, h1]
  rfl
theorem qet {r : Int} (h : 1 <= r /\ r <= 14) : r = 1 \/ r = 2 \/ r = 3 \/ r = 4 \/ r = 5 \/ r = 6 \/ r = 7 \/ r = 8 \/ r = 9 \/ r = 10 \/ r = 11 \/ r = 12 \/ r = 13 \/ r = 14 := by omega
set_option maxHeartbeats 8000000 in
theorem qj0 (r : Int) (h : 1 <= r /\ r <= 14) : FC Tryz.prog 199 [iD r] [iD (opL r)] := by
 rcases qet h with rfl | rfl | rfl | rfl | rfl | rfl | rfl | rfl | rfl | rfl | rfl | rfl | rfl | rfl <;>
 ·refine zag Tryz.call199 Tryz.func199 rfl (by kernel_rfl) (zau (by kernel_rfl)) ?_
  simp -implicitDefEqProofs only [go_sem, Tryz.results199]
  rfl
set_option maxHeartbeats 8000000 in
theorem zow (r : Int) (h : 1 <= r /\ r <= 14) : FC Tryz.prog 268 [iD r] [bD (onL r), iD (opL r)] := by
 rcases qet h with rfl | rfl | rfl | rfl | rfl | rfl | rfl | rfl | rfl | rfl | rfl | rfl | rfl | rfl <;>
 ·refine zag Tryz.call268 Tryz.func268 rfl (by kernel_rfl) (zau (by kernel_rfl)) ?_
  simp -implicitDefEqProofs only [go_sem, Tryz.results268]
  exact ⟨rfl, rfl⟩
theorem zh2 (r : Int) : FC Tryz.prog 269 [iD r] [bD (qa3 r)] := by
 unfold qa3
 cases h : (r == 11)
 ·refine zag Tryz.call269 Tryz.func269 rfl (by kernel_rfl) (zau (by kernel_rfl)) ?_
  simp -implicitDefEqProofs only [go_sem, Tryz.results269, h]
  rfl
 ·refine zag Tryz.call269 Tryz.func269 rfl (by kernel_rfl) (zau (by kernel_rfl)) ?_
  simp -implicitDefEqProofs only [go_sem, Tryz.results269, h]
  rfl
theorem za3 (r : Int) : FC Tryz.prog 206 [iD r] [bD (inB r 11 14)] := by
 have H := zb3 r 11 14
 refine zag Tryz.call206 Tryz.func206 rfl (by kernel_rfl) (zau (by kernel_rfl)) ?_
 simp -implicitDefEqProofs only [go_sem, Tryz.results206]
 refine callF (H) (by simp -implicitDefEqProofs only [go_sem]) ?_
 simp -implicitDefEqProofs only [go_sem]
theorem zt6 (xs : List Fm) (f : Fm) : FC Tryz.prog 198 [.one (fmS xs), fmD f] [bD (xs.any fun g => same f g)] := by
 refine zc7 (fun hw => ?_) Tryz.call198
 have hl : xs.length <= 9223372036854775807 := by simpa [zfj, wfT] using hw.1.1
 have HS := fun g : Fm => zh8 g f
 simp only [fmD, zaa f] at HS ⊢
 refine zag Tryz.call198 Tryz.func198 rfl (by kernel_rfl) (zau (by kernel_rfl)) ?_
 simp -implicitDefEqProofs only [go_sem, Tryz.results198]
 refine zad (fun k : Nat => hd [(0, vT (fmS xs)), (3, .one (.bx 3 0)), (5, vI k)] [(3, [.t (.int .i64 f.op), .t (.str f.atom.name), .t (tmS f.atom.args), .t (.str f.var), .t (fmS f.parts)])] []) (fun k => k <= xs.length /\ (xs.any fun g => same f g) = ((xs.drop k).any fun g => same f g)) (fun k => xs.length - k) 0 (zac ?_) ?_ ?_
 ·simp -implicitDefEqProofs only [go_sem]
 ·exact ⟨Nat.zero_le _, by rw [List.drop_zero]⟩
 ·intro k ⟨hk, hr⟩
  by_cases hlt : k < xs.length
  ·have H := HS xs[k]
   simp only [zaa xs[k]] at H
   rw [List.drop_eq_getElem_cons hlt, List.any_cons, qdo] at hr
   simp -implicitDefEqProofs only [go_sem, hlt]
   refine drawn (by kernel_rfl) ?_
   simp -implicitDefEqProofs only [go_sem, zaf, hlt, zaa xs[k]]
   refine zan (H) (by simp -implicitDefEqProofs only [go_sem]) ?_
   simp -implicitDefEqProofs only [go_sem]
   refine ⟨by kernel_rfl, fun h => ?_, fun h => ?_⟩
   ·rw [show same xs[k] f = true by simpa using h, Bool.true_or] at hr
    rw [hr]
   ·rw [show same xs[k] f = false by simpa using h, Bool.false_or] at hr
    rw [zas (by omega)]
    exact ⟨k + 1, ⟨hlt, hr⟩, by omega, zac (by simp -implicitDefEqProofs only [go_sem])⟩
  ·rw [List.drop_of_length_le (by omega)] at hr
   rw [hr]
   simp -implicitDefEqProofs only [go_sem, hlt]
   rfl
def vfs (xs : List Fm) : List Str := (xs.map fun x => vf x []).flatten
theorem zwo (xs : List Fm) {k : Nat} (h : k < xs.length) : vfs (xs.take (k + 1)) = vfs (xs.take k) ++ vf xs[k] [] := by
 unfold vfs
 rw [List.take_succ_eq_append_getElem h, List.map_append, List.flatten_append]; simp
theorem zob {xs : List Fm} (hg : ∀ x ∈ xs, x.good = true) : (vfs xs).length <= 42000 * xs.length := by
 induction xs with
 | nil => exact Nat.le_refl _
 | cons x xs ih =>
  have h1 := ih fun y hy => hg y (by simp [hy])
  have h2 := zws x []
  have h3 := zei x
  have h4 := zc2 (hg x (by simp))
  have e : vfs (x :: xs) = vf x [] ++ vfs xs := rfl
  rw [e, List.length_append, List.length_cons]
  omega
theorem qa8 (xs : List Fm) (n : Str) : (vfs xs).contains n = xs.any fun f => (zba [] (vf f [])).contains n := by
 induction xs with
 | nil => rfl
 | cons x xs ih =>
  have e : vfs (x :: xs) = vf x [] ++ vfs xs := rfl
  rw [e, List.any_cons, <- ih, zeq, Bool.eq_iff_iff, Bool.or_eq_true, List.contains_iff_mem, List.contains_iff_mem, List.contains_iff_mem, List.mem_append]
set_option maxHeartbeats 1000000 in
theorem zwv (s : Sq) (hs : s.good = true) : FC Tryz.prog 266 [sqD s] [.one (zcm (zba (zba [] (vfs s.left)) (vfs s.right)))] := by
 unfold Sq.good zdp at hs
 simp only [Bool.and_eq_true, decide_eq_true_eq, List.all_eq_true] at hs
 obtain ⟨⟨l1, g1⟩, l2, g2⟩ := hs
 have hL := zob g1
 have hR := zob g2
 have hI := fun (x : Fm) (hx : x.good = true) (ys : List Str) (hy : ys.length <= 1000000) => zwl x (zeh hx) (Nat.le_trans (zc2 hx) (by omega)) ys [] (by have := zws x []; have := zei x; have := zc2 hx; omega) (by have := zei x; have := zc2 hx; simp only [List.length_nil]; omega)
 simp only [sqD, zah]
 refine zg1 Tryz.call266 Tryz.func266 rfl (by kernel_rfl) (zau (by kernel_rfl)) ?_
 simp -implicitDefEqProofs only [go_sem, Tryz.results266]
 refine zal (by simp -implicitDefEqProofs only [go_sem]) ?_
 simp -implicitDefEqProofs only [go_sem]
 refine zad (fun k : Nat => hd [(1, .one (.bx 1 0)), (3, .one (.ow 192 0)), (4, vI k)] [(1, [.rn (fmS s.left), .rn (fmS s.right)])] [(192, ⟨true, 1, (zba [] (vfs (s.left.take k))).map fun s => [.str s], 0, true⟩)]) (fun k => k <= s.left.length) (fun k => s.left.length - k) 0 (zac ?_) (Nat.zero_le _) ?_
 ·simp -implicitDefEqProofs only [go_sem]
  rfl
 ·intro k hk
  by_cases hlt : k < s.left.length
  ·have hx := g1 _ (List.getElem_mem hlt)
   have h3 : (zba [] (vfs (s.left.take k))).length <= 1000000 := by
    have h4 := zcr (vfs (s.left.take k)) []
    have h5 := zob (xs := s.left.take k) fun x h => g1 x (List.mem_of_mem_take h)
    rw [List.length_take] at h5
    simp only [List.length_nil] at h4
    omega
   have HC := hI _ hx _ h3
   rw [<- ze4, <- zwo _ hlt] at HC
   simp only [fmD, zaa s.left[k]] at HC
   simp -implicitDefEqProofs only [go_sem, zaf, hlt, zaa s.left[k]]
   refine zal (by simp -implicitDefEqProofs only [go_sem]) ?_
   simp -implicitDefEqProofs only [go_sem]
   refine frzO 640 rfl rfl ?_
   simp -implicitDefEqProofs only [go_sem]
   refine zdw [1, 4] [14, 19, 20] [] (HC) (by simp -implicitDefEqProofs only [go_sem, zcm, List.map_nil]) (by simp -implicitDefEqProofs only [go_sem, zcm, List.map_nil]) (by simp -implicitDefEqProofs only [go_sem, zcm, List.map_nil]) (by simp -implicitDefEqProofs only [go_sem, zcm, List.map_nil]) ?_
   simp -implicitDefEqProofs only [go_sem, zcm, List.map_nil]
   refine ⟨k + 1, hlt, by omega, zde 192 672 ?_⟩
   simp -implicitDefEqProofs only [go_sem]
   rw [zas (by omega)]
  ·have ht : s.left.take k = s.left := List.take_of_length_le (by omega)
   rw [ht]
   have h6 : (zba [] (vfs s.left)).length <= 500000 := by
    have h4 := zcr (vfs s.left) []
    simp only [List.length_nil] at h4
    omega
   generalize zba [] (vfs s.left) = P at h6 ⊢
   simp -implicitDefEqProofs only [go_sem, hlt]
   refine zad (fun k : Nat => hd [(1, .one (.bx 1 0)), (3, .one (.ow 192 0)), (5, vI k)] [(1, [.rn (fmS s.left), .rn (fmS s.right)])] [(192, ⟨true, 1, (zba P (vfs (s.right.take k))).map fun s => [.str s], 0, true⟩)]) (fun k => k <= s.right.length) (fun k => s.right.length - k) 0 (zac ?_) (Nat.zero_le _) ?_
   ·simp -implicitDefEqProofs only [go_sem]
    rfl
   ·intro k hk
    by_cases hlt : k < s.right.length
    ·have hx := g2 _ (List.getElem_mem hlt)
     have h3 : (zba P (vfs (s.right.take k))).length <= 1000000 := by
      have h4 := zcr (vfs (s.right.take k)) P
      have h5 := zob (xs := s.right.take k) fun x h => g2 x (List.mem_of_mem_take h)
      rw [List.length_take] at h5
      omega
     have HC := hI _ hx _ h3
     rw [<- ze4, <- zwo _ hlt] at HC
     simp only [fmD, zaa s.right[k]] at HC
     simp -implicitDefEqProofs only [go_sem, zaf, hlt, zaa s.right[k]]
     refine zal (by simp -implicitDefEqProofs only [go_sem]) ?_
     simp -implicitDefEqProofs only [go_sem]
     refine frzO 1120 rfl rfl ?_
     simp -implicitDefEqProofs only [go_sem]
     refine zdw [1, 5] [29, 34, 35] [] (HC) (by simp -implicitDefEqProofs only [go_sem, zcm, List.map_nil]) (by simp -implicitDefEqProofs only [go_sem, zcm, List.map_nil]) (by simp -implicitDefEqProofs only [go_sem, zcm, List.map_nil]) (by simp -implicitDefEqProofs only [go_sem, zcm, List.map_nil]) ?_
     simp -implicitDefEqProofs only [go_sem, zcm, List.map_nil]
     refine ⟨k + 1, hlt, by omega, zde 192 1152 ?_⟩
     simp -implicitDefEqProofs only [go_sem]
     rw [zas (by omega)]
    ·have ht : s.right.take k = s.right := List.take_of_length_le (by omega)
     rw [ht]
     simp -implicitDefEqProofs only [go_sem, hlt]
theorem zxs (s : Sq) (n : Str) : (zba (zba [] (vfs s.left)) (vfs s.right)).contains n = ze6 s n := by
 unfold ze6
 rw [<- qa8, <- qa8, Bool.eq_iff_iff, Bool.or_eq_true, List.contains_iff_mem, List.contains_iff_mem, List.contains_iff_mem, zf4, zf4]
 constructor
 ·rintro (h | h | h)
  ·exact Or.inr h
  ·exact Or.inl h
  ·cases h
 ·rintro (h | h)
  ·exact Or.inr (Or.inl h)
  ·exact Or.inl h
end Go.Proofs.YtemnhgmgeijkcaaGreat
