/-
  The walk over plain data, and contracts of functions of the program and of its laws.
  Conditions: those that each theorem names.
-/
import Derived.Test.YtemnhgmgeijkcaaGreatQ7
import Derived.Test.YtemnhgmgeijkcaaGreatQ6
import Derived.Lib.Walk
import Derived.Lib.SliceRun
import Derived.Lib.AppendZeros
import Derived.Test.YtemnhgmgeijkcaaGreatQ5
namespace Go.Proofs.YtemnhgmgeijkcaaGreat
set_option linter.unusedSimpArgs false
set_option linter.unusedVariables false
set_option linter.unusedSectionVars false
set_option maxRecDepth 4000
open Go.RowKit
def mpS (ps : List (Str × Tm)) : T := .mp true (ps.map bnC)
theorem zhs (s : Str) : ∀ ps : List (Str × Tm), zd0 (.str s) (ps.map bnC) = some ((ps.find? fun p => p.1 == s).map fun p => tmC p.2)
 | [] => rfl
 | p :: ps => by
  have ih := zhs s ps
  show zd0 (.str s) ((.str p.1 :: tmC p.2) :: ps.map bnC) = _
  unfold zd0
  rw [show zyu (.str s) (.str p.1) = some (decide (s = p.1)) from rfl, List.find?_cons]
  by_cases h : s = p.1
  ·subst h; simp
  ·have h2 : (p.1 == s) = false := by simpa using fun e => h e.symm
   rw [decide_eq_false h, h2]
   exact ih
def rvT (ps : List (Str × Tm)) : Tm -> Tm := Tm.fold fun m _ rs => if rs.length = 0 then (match ps.find? fun p => p.1 == m with | some p => p.2 | none => .mk m []) else .mk m rs
theorem zty (ps : List (Str × Tm)) (a : Tm) : rvT ps a = if a.args.length = 0 then (match ps.find? fun p => p.1 == a.name with | some p => p.2 | none => .mk a.name []) else .mk a.name (a.args.map (rvT ps)) := by
 unfold rvT
 rw [Tm.fold_eq]
 simp only [List.length_map]
theorem qj5 : lk2Z Tryz.prog 33 = some (.tup [(true, [.t (.str []), .nl 2]), (false, [.t (.bool false)])]) := by kernel_rfl
theorem zkv (ps : List (Str × Tm)) (hp : ∀ p ∈ ps, p.2.wt <= 1048576) (a : Tm) (ha : a.args.length <= 1048576) (H : ∀ x ∈ a.args, FC Tryz.prog 126 [tmD x, .one (mpS ps)] [tmD (rvT ps x)]) : FC Tryz.prog 126 [tmD a, .one (mpS ps)] [tmD (rvT ps a)] := by
 have hv := zty ps a
 have hf := zhs a.name ps
 have hpw : ∀ p, (ps.find? fun p => p.1 == a.name) = some p -> p.2.wt <= 1048576 := fun p h => hp p (List.mem_of_find?_eq_some h)
 have hz := qj5
 unfold mpS at H ⊢
 generalize ps.map bnC = R at H hf ⊢
 generalize (ps.find? fun p => p.1 == a.name) = r at hf hv hpw
 have e1 : tmD (.mk a.name (a.args.map (rvT ps))) = .agg [.str a.name, .sl 2 (a.args.map fun x => tmC (rvT ps x))] := by unfold tmD; rw [zaa]; simp only [Tm.name, Tm.args, List.map_map, Function.comp_def]
 cases r with
 | none =>
  rw [show (none : Option (Str × Tm)).map (fun p => tmC p.2) = none from rfl] at hf
  have hv : rvT ps a = .mk a.name (a.args.map (rvT ps)) := by
   rw [hv]
   split
   ·rename_i h0
    rw [List.length_eq_zero_iff.1 h0]; rfl
   ·rfl
  rw [hv, e1]
  simp only [tmD, zaa a] at H ⊢
  refine zaj Tryz.call126 Tryz.func126 rfl (by kernel_rfl) (zav (by kernel_rfl)) ?_
  simp -implicitDefEqProofs only [go_sem, Tryz.results126]
  refine zyq (by simp -implicitDefEqProofs only [go_sem, hf, hz, Tryz.underlying105, Tryz.underlying9]; rfl) ?_
  simp -implicitDefEqProofs only [go_sem]
  refine zad (fun k : Nat => hd [(1, vT (.mp true R)), (4, .one (.bx 4 0)), (7, .one (.bx 7 0)), (30, vT (tmS a.args)), (31, vI a.args.length), (32, vI k)] [(4, [.t (.str []), .nl 2]), (7, [.t (.str a.name), .ow 3000 0])] [(3000, ⟨true, 2, (a.args.take k).map fun x => tmC (rvT ps x), 0, true⟩)]) (fun k => k <= a.args.length) (fun k => a.args.length - k) 0 (zab ?_) (Nat.zero_le _) ?_
  ·simp -implicitDefEqProofs only [go_sem]
  ·intro k hk
   by_cases hlt : k < a.args.length
   ·have hmin : min k a.args.length <= 4294967295 := by omega
    have HC := H a.args[k] (List.getElem_mem hlt)
    simp only [tmD, zaa a.args[k], zaa (rvT ps a.args[k])] at HC
    simp -implicitDefEqProofs only [go_sem, zai, hlt, zaa a.args[k]]
    refine drawn (by kernel_rfl) ?_
    simp -implicitDefEqProofs only [go_sem]
    refine za1 (HC) (by simp -implicitDefEqProofs only [go_sem]) ?_
    simp -implicitDefEqProofs only [go_sem]
    refine zbr (by simp -implicitDefEqProofs only [go_sem]) ?_
    simp -implicitDefEqProofs only [go_sem]
    refine zjo true (by simp -implicitDefEqProofs only [go_sem, ne_eq, List.length_map, List.length_take, hmin]) ?_
    simp -implicitDefEqProofs only [go_sem, ne_eq, List.length_map, List.length_take, hmin]
    refine ⟨by kernel_rfl, k + 1, hlt, by omega, zab ?_⟩
    simp -implicitDefEqProofs only [go_sem]
    rw [zak (by omega), List.take_succ_eq_append_getElem hlt, List.map_append, List.map_singleton, zaa (rvT ps a.args[k])]
    trivial
   ·have ht : a.args.take k = a.args := List.take_of_length_le (by omega)
    simp -implicitDefEqProofs only [go_sem, hlt, ht]
 | some p =>
  have HC := zhz p.2 (hpw p rfl)
  rw [show (some p).map (fun p => tmC p.2) = some (tmC p.2) from rfl] at hf
  simp only [tmD, zaa p.2] at HC hf
  by_cases h0 : a.args.length = 0
  ·rw [if_pos h0] at hv
   rw [hv]
   have e0 : ((a.args.length : Int) == 0) = true := by simp [h0]
   simp only [tmD, zaa a, zaa p.2]
   refine zaj Tryz.call126 Tryz.func126 rfl (by kernel_rfl) (zav (by kernel_rfl)) ?_
   simp -implicitDefEqProofs only [go_sem, Tryz.results126]
   refine zyq (by simp -implicitDefEqProofs only [go_sem, hf, hz, Tryz.underlying105, Tryz.underlying9]; rfl) ?_
   simp -implicitDefEqProofs only [go_sem, e0]
   refine callF (HC) (by simp -implicitDefEqProofs only [go_sem]) ?_
   simp -implicitDefEqProofs only [go_sem]
  ·rw [if_neg h0] at hv
   have e0 : ((a.args.length : Int) == 0) = false := by simp [h0]
   rw [hv, e1]
   simp only [tmD, zaa a] at H ⊢
   refine zaj Tryz.call126 Tryz.func126 rfl (by kernel_rfl) (zav (by kernel_rfl)) ?_
   simp -implicitDefEqProofs only [go_sem, Tryz.results126]
   refine zyq (by simp -implicitDefEqProofs only [go_sem, hf, hz, Tryz.underlying105, Tryz.underlying9]; rfl) ?_
   simp -implicitDefEqProofs only [go_sem, e0]
   refine zad (fun k : Nat => hd [(1, vT (.mp true R)), (4, .one (.bx 4 0)), (7, .one (.bx 7 0)), (30, vT (tmS a.args)), (31, vI a.args.length), (32, vI k)] [(4, [.t (.str []), .nl 2]), (7, [.t (.str a.name), .ow 3000 0])] [(3000, ⟨true, 2, (a.args.take k).map fun x => tmC (rvT ps x), 0, true⟩)]) (fun k => k <= a.args.length) (fun k => a.args.length - k) 0 (zab ?_) (Nat.zero_le _) ?_
   ·simp -implicitDefEqProofs only [go_sem]
   ·intro k hk
    by_cases hlt : k < a.args.length
    ·have hmin : min k a.args.length <= 4294967295 := by omega
     have HC := H a.args[k] (List.getElem_mem hlt)
     simp only [tmD, zaa a.args[k], zaa (rvT ps a.args[k])] at HC
     simp -implicitDefEqProofs only [go_sem, zai, hlt, zaa a.args[k]]
     refine drawn (by kernel_rfl) ?_
     simp -implicitDefEqProofs only [go_sem]
     refine za1 (HC) (by simp -implicitDefEqProofs only [go_sem]) ?_
     simp -implicitDefEqProofs only [go_sem]
     refine zbr (by simp -implicitDefEqProofs only [go_sem]) ?_
     simp -implicitDefEqProofs only [go_sem]
     refine zjo true (by simp -implicitDefEqProofs only [go_sem, ne_eq, List.length_map, List.length_take, hmin]) ?_
     simp -implicitDefEqProofs only [go_sem, ne_eq, List.length_map, List.length_take, hmin]
     refine ⟨by kernel_rfl, k + 1, hlt, by omega, zab ?_⟩
     simp -implicitDefEqProofs only [go_sem]
     rw [zak (by omega), List.take_succ_eq_append_getElem hlt, List.map_append, List.map_singleton, zaa (rvT ps a.args[k])]
     trivial
    ·have ht : a.args.take k = a.args := List.take_of_length_le (by omega)
     simp -implicitDefEqProofs only [go_sem, hlt, ht]
theorem zmt (ps : List (Str × Tm)) (hp : ∀ p ∈ ps, p.2.wt <= 1048576) : ∀ a : Tm, a.wt <= 1048576 -> FC Tryz.prog 126 [tmD a, .one (mpS ps)] [tmD (rvT ps a)] :=
 zba fun m xs ih hs => by
  obtain ⟨h1, h2⟩ := Tm.wt_args hs
  exact zkv ps hp (.mk m xs) h1 fun x hx => ih x hx (h2 x hx)
def inF (ps : List (Str × Tm)) : Fm -> Fm := Fm.fold fun o a v _ rs => if (o == 3) = true then .mk 3 (rvT ps a) [] [] else .mk o a v rs
theorem qjl (ps : List (Str × Tm)) (f : Fm) : inF ps f = if (f.op == 3) = true then .mk 3 (rvT ps f.atom) [] [] else .mk f.op f.atom f.var (f.parts.map (inF ps)) := Fm.fold_eq _ f
theorem qg1 (a : Tm) : GC Tryz.prog 125 [(true, tmD a)] [fmD (.mk 3 a [] [])] := by
 simp only [tmD, zaa a, fmD, zc2]
 refine zk7 Tryz.call125 Tryz.func125 rfl (by kernel_rfl) (by simp only [List.length_cons, List.length_nil, Tryz.ntmps125]; omega) (by simp [zbo, T.isPin]) ?_
 simp -implicitDefEqProofs only [go_sem, Tryz.results125]
theorem zpj (a : Fm) (g : FuncId) (R : List (List T)) (φ : Fm -> Fm) (H : ∀ x ∈ a.parts, FC Tryz.prog g [fmD x, .one (.ptr [.mp true R])] [fmD (φ x)]) (h0 : a.atom.wt <= 1048576) (hs : a.parts.length <= 1048576) : FC Tryz.prog 127 [fmD a, .one (.fn g [.ptr [.mp true R]])] [fmD (.mk a.op a.atom a.var (a.parts.map φ))] := by
 simp only [fmD, zac a, zc2]
 refine zaj Tryz.call127 Tryz.func127 rfl (by kernel_rfl) (zav (by kernel_rfl)) ?_
 simp -implicitDefEqProofs only [go_sem, Tryz.results127]
 refine drawn (by kernel_rfl) ?_
 simp -implicitDefEqProofs only [go_sem]
 refine za1 (zhz a.atom h0) (by simp -implicitDefEqProofs only [go_sem, zaa]) ?_
 simp -implicitDefEqProofs only [go_sem, zaa]
 refine ⟨by kernel_rfl, ?_⟩
 refine zad (fun k : Nat => hd [(1, .one (.t (.fn g [.ptr [.mp true R]]))), (4, .one (.bx 4 0)), (5, .one (.bx 5 0)), (17, vT (fmS a.parts)), (18, vI a.parts.length), (19, vI k)] [(4, [.t (.int .i64 0), .t (.str []), .nl 2, .t (.str []), .nl 5]), (5, [.t (.int .i64 a.op), .t (.str a.atom.name), .ow 385 0, .t (.str a.var), .ow 3000 0])]
  [(385, ⟨true, 2, a.atom.args.map tmC, 0, true⟩), (3000, ⟨true, 5, (a.parts.take k).map fun x => fmC (φ x), 0, true⟩)]) (fun k => k <= a.parts.length) (fun k => a.parts.length - k) 0 (zab ?_) ?_ ?_
 ·simp -implicitDefEqProofs only [go_sem]
 ·simp
 ·intro k hk
  by_cases hlt : k < a.parts.length
  ·have hmin : min k a.parts.length <= 4294967295 := by omega
   simp -implicitDefEqProofs only [go_sem, zai, hlt, zac a.parts[k]]
   refine drawn (by kernel_rfl) ?_
   simp -implicitDefEqProofs only [go_sem]
   refine za1 (H a.parts[k] (List.getElem_mem hlt)) (by simp -implicitDefEqProofs only [go_sem, zac]) ?_
   simp -implicitDefEqProofs only [go_sem, zac]
   refine zbr (by simp -implicitDefEqProofs only [go_sem]) ?_
   simp -implicitDefEqProofs only [go_sem]
   refine zjo true (by simp -implicitDefEqProofs only [go_sem, ne_eq, List.length_map, List.length_take, hmin]) ?_
   simp -implicitDefEqProofs only [go_sem, ne_eq, List.length_map, List.length_take, hmin]
   refine ⟨by kernel_rfl, k + 1, hlt, by omega, zab ?_⟩
   simp -implicitDefEqProofs only [go_sem]
   rw [zak (by omega), List.take_succ_eq_append_getElem hlt, List.map_append, List.map_singleton]
   simp only [zac]
   trivial
  ·have ht : a.parts.take k = a.parts := List.take_of_length_le (by omega)
   simp -implicitDefEqProofs only [go_sem, hlt, ht]
   rfl
theorem zqt (ps : List (Str × Tm)) (f : Fm) (H : FC Tryz.prog 69 [fmD f, .one (mpS ps)] [fmD (inF ps f)]) : FC Tryz.prog 128 [fmD f, .one (.ptr [mpS ps])] [fmD (inF ps f)] := by
 unfold mpS at H ⊢
 generalize ps.map bnC = R at H ⊢
 generalize inF ps f = r at H ⊢
 simp only [fmD, zac f, zac r] at H ⊢
 refine zaj Tryz.call128 Tryz.func128 rfl (by kernel_rfl) (zav (by kernel_rfl)) ?_
 simp -implicitDefEqProofs only [go_sem, Tryz.results128]
 refine callF (H) (by simp -implicitDefEqProofs only [go_sem]) ?_
 simp -implicitDefEqProofs only [go_sem]
theorem zr4 (ps : List (Str × Tm)) (hp : ∀ p ∈ ps, p.2.wt <= 1048576) (f : Fm) (hw : f.wt <= 1048576) (H : ∀ x ∈ f.parts, FC Tryz.prog 69 [fmD x, .one (mpS ps)] [fmD (inF ps x)]) : FC Tryz.prog 69 [fmD f, .one (mpS ps)] [fmD (inF ps f)] := by
 obtain ⟨w1, w2, w3⟩ := Fm.wt_parts hw
 have hv := qjl ps f
 have HM := zpj f 128 (ps.map bnC) (inF ps) (fun x hx => zqt ps x (H x hx)) w1 w2
 have HR := zmt ps hp f.atom w1
 have HA := qg1 (rvT ps f.atom)
 rw [hv]
 unfold mpS at HR ⊢
 generalize ps.map bnC = R at HM HR ⊢
 cases h3 : f.op == 3
 ·rw [if_neg (by simp)]
  simp only [fmD, zac f, zc2] at HM ⊢
  refine zaj Tryz.call69 Tryz.func69 rfl (by kernel_rfl) (zav (by kernel_rfl)) ?_
  simp -implicitDefEqProofs only [go_sem, Tryz.results69, h3]
  refine callF (HM) (by simp -implicitDefEqProofs only [go_sem]) ?_
  simp -implicitDefEqProofs only [go_sem]
 ·rw [if_pos rfl]
  generalize rvT ps f.atom = r at HR HA ⊢
  simp only [fmD, zac f, zc2, tmD, zaa f.atom, zaa r] at HR HA ⊢
  refine zb8 Tryz.call69 Tryz.func69 rfl (by kernel_rfl) (zav (by kernel_rfl)) ?_
  simp -implicitDefEqProofs only [go_sem, Tryz.results69, h3]
  refine callF (HR) (by simp -implicitDefEqProofs only [go_sem]) ?_
  simp -implicitDefEqProofs only [go_sem]
  refine zco [4] [11] [] (HA) (by simp -implicitDefEqProofs only [go_sem]) (by simp -implicitDefEqProofs only [go_sem]) (by simp -implicitDefEqProofs only [go_sem]) (by simp -implicitDefEqProofs only [go_sem]) ?_
  simp -implicitDefEqProofs only [go_sem]
theorem zx6 (ps : List (Str × Tm)) (hp : ∀ p ∈ ps, p.2.wt <= 1048576) : ∀ f : Fm, f.wt <= 1048576 -> FC Tryz.prog 69 [fmD f, .one (mpS ps)] [fmD (inF ps f)] :=
 za7 fun o a v xs ih hs => zr4 ps hp (.mk o a v xs) hs fun x hx => ih x hx (Nat.le_trans (zbx (a := .mk o a v xs) hx) hs)
end Go.Proofs.YtemnhgmgeijkcaaGreat
namespace Go.Proofs.YtemnhgmgeijkcaaGreat
set_option linter.unusedSimpArgs false
set_option linter.unusedVariables false
set_option linter.unusedSectionVars false
set_option maxRecDepth 4000
open Go.RowKit
def lkP (ps : List (Str × Tm)) (m : Str) : Tm := match ps.find? fun p => p.1 == m with | some p => p.2 | none => .mk m []
theorem zto (n : Str) (t : Tm) (ps : List (Str × Tm)) (m : Str) : lkP ((n, t) :: ps) m = if (n == m) = true then t else lkP ps m := by
 unfold lkP
 rw [List.find?_cons]
 cases hn : n == m
 ·simp only [hn, Bool.false_eq_true, if_false]
 ·simp only [hn, if_true]
theorem qly (ps : List (Str × Tm)) (m : Str) : (∃ p ∈ ps, lkP ps m = p.2) \/ lkP ps m = .mk m [] := by
 unfold lkP
 split
 ·rename_i p h
  exact Or.inl ⟨p, List.mem_of_find?_eq_some h, rfl⟩
 ·exact Or.inr rfl
theorem zjs (l : List (Str × Tm)) {m : Str} (h : zay m = true) (xs : List Tm) : zci l (.mk m xs) = lkP l m := by rw [zgn]; exact if_pos h
theorem zg8 (l : List (Str × Tm)) {m : Str} (h : ¬ zay m = true) (xs : List Tm) : zci l (.mk m xs) = .mk m (xs.map (zci l)) := by rw [zgn]; exact if_neg h
theorem rvT_v (l : List (Str × Tm)) (m : Str) : rvT l (.mk m []) = lkP l m := by rw [zty]; exact if_pos rfl
theorem rvT_n (l : List (Str × Tm)) (m : Str) {xs : List Tm} (h : xs ≠ []) : rvT l (.mk m xs) = .mk m (xs.map (rvT l)) := by rw [zty]; exact if_neg fun e => h (List.length_eq_zero_iff.1 e)
theorem zjn {m : Str} (h : zay m = true) (xs : List Tm) : (Tm.mk m xs).names = decide (xs.length = 0) := by rw [Tm.names_eq]; exact if_pos h
theorem zhu {m : Str} (h : ¬ zay m = true) (xs : List Tm) : (Tm.mk m xs).names = (zcs m && decide (xs.length <= 4) && xs.all Tm.names) := by rw [Tm.names_eq]; exact if_neg h
theorem zrs (l : List (Str × Tm)) : ∀ t : Tm, voS t = [] -> zci l t = t := zba fun m xs ih h => by
 have hv : voS (.mk m xs) = if zay m = true then [m] else (xs.map voS).flatten := zkb _
 rw [hv] at h
 by_cases hm : zay m = true
 ·rw [if_pos hm] at h; cases h
 ·rw [if_neg hm] at h
  rw [zg8 l hm]
  congr 1
  conv => rhs; rw [<- List.map_id xs]
  refine List.map_congr_left fun x hx => ih x hx ?_
  exact List.flatten_eq_nil_iff.1 h _ (List.mem_map_of_mem hx)
theorem zps (n : Str) (t : Tm) (ht : voS t = []) (ps : List (Str × Tm)) : ∀ a : Tm, zci ps (zci [(n, t)] a) = zci ((n, t) :: ps) a := zba fun m xs ih => by
 by_cases hm : zay m = true
 ·rw [zjs _ hm, zjs _ hm, zto, zto]
  cases hn : n == m
  ·show zci ps (.mk m []) = lkP ps m
   exact zjs _ hm []
  ·exact zrs ps t ht
 ·rw [zg8 _ hm, zg8 _ hm, zg8 _ hm, List.map_map]
  congr 1
  exact List.map_congr_left fun x hx => ih x hx
theorem qcj (ps : List (Str × Tm)) (hp : ∀ p ∈ ps, zay p.1 = true) : ∀ a : Tm, a.names = true -> rvT ps a = zci ps a := zba fun m xs ih h => by
 by_cases hm : zay m = true
 ·rw [zjn hm] at h
  have hx : xs = [] := List.length_eq_zero_iff.1 (of_decide_eq_true h)
  subst hx
  rw [rvT_v, zjs _ hm]
 ·rw [zhu hm] at h
  simp only [Bool.and_eq_true] at h
  rw [zg8 _ hm]
  by_cases hx : xs = []
  ·subst hx
   rw [rvT_v]
   unfold lkP
   have hf : (ps.find? fun p => p.1 == m) = none := by
    rw [List.find?_eq_none]
    intro p hpm e
    have := hp p hpm
    rw [beq_iff_eq.1 e] at this
    exact hm this
   rw [hf]; rfl
  ·rw [rvT_n _ _ hx]
   congr 1
   exact List.map_congr_left fun x hx => ih x hx (List.all_eq_true.1 h.2 x hx)
def nmA (a : Tm) : Bool := if (a.name == [61]) = true then decide (a.args.length = 2) && a.args.all Tm.names else zcs a.name && a.names
theorem zft (a : Tm) : a.atomOk = (nmA a && zcx a) := by
 unfold Tm.atomOk nmA Tm.good
 split
 ·rw [Bool.and_assoc, Bool.and_comm (zcx a), Bool.and_assoc]
 ·rw [Bool.and_comm (zcx a), Bool.and_assoc]
theorem zol {a : Tm} (h : nmA a = true) : zay a.name = false /\ a.args.all Tm.names = true := by
 unfold nmA at h
 split at h
 ·rename_i he
  have he : a.name = [61] := by simpa using he
  rw [Bool.and_eq_true] at h
  rw [he]
  exact ⟨by decide, h.2⟩
 ·rw [Bool.and_eq_true] at h
  have hv := zwp h.1
  have h2 := h.2
  rw [Tm.names_eq, hv, if_neg (by simp)] at h2
  simp only [Bool.and_eq_true] at h2
  exact ⟨hv, h2.2⟩
theorem qar (ps : List (Str × Tm)) (hp : ∀ p ∈ ps, zay p.1 = true) {a : Tm} (h : nmA a = true) : rvT ps a = zci ps a := by
 by_cases he : (a.name == [61]) = true
 ·have h2 := h
  unfold nmA at h2
  rw [if_pos he] at h2
  simp only [Bool.and_eq_true, decide_eq_true_eq] at h2
  obtain ⟨h3, h4⟩ := zol h
  rw [zty, zgn, if_neg (by omega), h3, if_neg (by simp)]
  congr 1
  exact List.map_congr_left fun x hx => qcj ps hp x (List.all_eq_true.1 h4 x hx)
 ·unfold nmA at h
  rw [if_neg he, Bool.and_eq_true] at h
  exact qcj ps hp a h.2
theorem zk4 (ps : List (Str × Tm)) (hp : ∀ p ∈ ps, p.2.names = true) : ∀ a : Tm, a.names = true -> (zci ps a).names = true := zba fun m xs ih h => by
 by_cases hm : zay m = true
 ·rw [zjs _ hm]
  rcases qly ps m with ⟨p, h1, h2⟩ | h2
  ·rw [h2]; exact hp p h1
  ·rw [h2, zjn hm]; rfl
 ·rw [zhu hm] at h
  simp only [Bool.and_eq_true] at h
  rw [zg8 _ hm, zhu hm, List.length_map, List.all_map]
  simp only [Bool.and_eq_true]
  exact ⟨h.1, List.all_eq_true.2 fun x hx => ih x hx (List.all_eq_true.1 h.2 x hx)⟩
theorem qh0 (ps : List (Str × Tm)) (hp : ∀ p ∈ ps, p.2.names = true) {a : Tm} (h : nmA a = true) : nmA (zci ps a) = true := by
 obtain ⟨h3, h4⟩ := zol h
 have e : zci ps a = .mk a.name (a.args.map (zci ps)) := by rw [zgn, h3, if_neg (by simp)]
 have hall : (a.args.map (zci ps)).all Tm.names = true := by
  rw [List.all_map]
  exact List.all_eq_true.2 fun x hx => zk4 ps hp x (List.all_eq_true.1 h4 x hx)
 rw [e]
 unfold nmA at h ⊢
 show (if (a.name == [61]) = true then decide ((a.args.map (zci ps)).length = 2) && (a.args.map (zci ps)).all Tm.names else zcs a.name && (Tm.mk a.name (a.args.map (zci ps))).names) = true
 by_cases he : (a.name == [61]) = true
 ·rw [if_pos he] at h ⊢
  rw [Bool.and_eq_true] at h ⊢
  rw [List.length_map]
  exact ⟨h.1, hall⟩
 ·rw [if_neg he] at h ⊢
  rw [Bool.and_eq_true] at h ⊢
  have := zk4 ps hp a h.2
  rw [e] at this
  exact ⟨h.1, this⟩
theorem zez {α : Type} (f g : α -> Nat) : ∀ (xs : List α) (i j : Nat), i <= j -> (∀ x ∈ xs, f x <= g x) -> (xs.map f).foldl max i <= (xs.map g).foldl max j
 | [], _, _, h, _ => h
 | x :: xs, i, j, h, H => by
  rw [List.map_cons, List.map_cons, List.foldl_cons, List.foldl_cons]
  have := H x (by simp)
  exact zez f g xs _ _ (by omega) fun y hy => H y (by simp [hy])
theorem zly {α : Type} (f g : α -> Nat) : ∀ (xs : List α), (∀ x ∈ xs, f x <= g x) -> (xs.map f).sum <= (xs.map g).sum
 | [], _ => Nat.le_refl _
 | x :: xs, H => by
  have := H x (by simp)
  have := zly f g xs fun y hy => H y (by simp [hy])
  rw [List.map_cons, List.map_cons, List.sum_cons, List.sum_cons]; omega
theorem zux (ps : List (Str × Tm)) : ∀ a : Tm, a.names = true -> a.nodes <= (zci ps a).nodes /\ a.depth <= (zci ps a).depth := zba fun m xs ih h => by
 have hn : (Tm.mk m xs).nodes = 1 + (xs.map Tm.nodes).sum := Tm.nodes_eq _
 have hd : (Tm.mk m xs).depth = (xs.map Tm.depth).foldl max 0 + 1 := Tm.depth_eq _
 by_cases hm : zay m = true
 ·rw [zjn hm] at h
  have hx : xs = [] := List.length_eq_zero_iff.1 (of_decide_eq_true h)
  subst hx
  rw [zjs _ hm, hn, hd]
  have h1 := (lkP ps m).nodes_eq
  have h2 := (lkP ps m).depth_eq
  simp only [List.map_nil, List.sum_nil, List.foldl_nil]
  omega
 ·rw [zhu hm] at h
  simp only [Bool.and_eq_true] at h
  rw [zg8 _ hm, hn, hd]
  have hn2 : (Tm.mk m (xs.map (zci ps))).nodes = 1 + ((xs.map (zci ps)).map Tm.nodes).sum := Tm.nodes_eq _
  have hd2 : (Tm.mk m (xs.map (zci ps))).depth = ((xs.map (zci ps)).map Tm.depth).foldl max 0 + 1 := Tm.depth_eq _
  rw [hn2, hd2, List.map_map, List.map_map]
  have h1 := zly Tm.nodes (Tm.nodes ∘ zci ps) xs fun x hx => (ih x hx (List.all_eq_true.1 h.2 x hx)).1
  have h2 := zez Tm.depth (Tm.depth ∘ zci ps) xs 0 0 (Nat.le_refl _) fun x hx => (ih x hx (List.all_eq_true.1 h.2 x hx)).2
  omega
theorem zxi (ps : List (Str × Tm)) {a : Tm} (h : nmA a = true) (hs : zcx (zci ps a) = true) : zcx a = true := by
 obtain ⟨h3, h4⟩ := zol h
 have e : zci ps a = .mk a.name (a.args.map (zci ps)) := by rw [zgn, h3, if_neg (by simp)]
 rw [e] at hs
 unfold zcx at hs ⊢
 simp only [Bool.and_eq_true, decide_eq_true_eq] at hs ⊢
 rw [Tm.nodes_eq, Tm.depth_eq] at hs
 rw [Tm.nodes_eq, Tm.depth_eq]
 have hs : 1 + ((a.args.map (zci ps)).map Tm.nodes).sum <= 30 /\ ((a.args.map (zci ps)).map Tm.depth).foldl max 0 + 1 <= 8 := hs
 rw [List.map_map, List.map_map] at hs
 have h1 := zly Tm.nodes (Tm.nodes ∘ zci ps) a.args fun x hx => (zux ps x (List.all_eq_true.1 h4 x hx)).1
 have h2 := zez Tm.depth (Tm.depth ∘ zci ps) a.args 0 0 (Nat.le_refl _) fun x hx => (zux ps x (List.all_eq_true.1 h4 x hx)).2
 omega
theorem zv0 {α : Type} (f : α -> Nat) : ∀ xs : List α, (xs.map fun x => 8 * f x).sum = 8 * (xs.map f).sum
 | [] => rfl
 | x :: xs => by rw [List.map_cons, List.sum_cons, zv0 f xs, List.map_cons, List.sum_cons]; omega
theorem zrf {α : Type} (w : α -> Nat) : ∀ xs : List α, (xs.map fun x => 1 + w x).sum = xs.length + (xs.map w).sum
 | [] => rfl
 | a :: l => by rw [List.map_cons, List.sum_cons, zrf w l, List.length_cons, List.map_cons, List.sum_cons]; omega
theorem zoh {xs : List Tm} (H : ∀ x ∈ xs, 1 + x.wt <= 8 * x.nodes) : xs.length + (xs.map Tm.wt).sum <= 8 * (xs.map Tm.nodes).sum := by
 rw [<- zrf, <- zv0]
 exact zly _ _ xs H
theorem zt4 : ∀ a : Tm, a.names = true -> 1 + a.wt <= 8 * a.nodes := zba fun m xs ih h => by
 have hw : (Tm.mk m xs).wt = m.length + xs.length + (xs.map Tm.wt).sum := Tm.wt_eq _
 have hn : (Tm.mk m xs).nodes = 1 + (xs.map Tm.nodes).sum := Tm.nodes_eq _
 rw [hw, hn]
 by_cases hm : zay m = true
 ·rw [zjn hm] at h
  have hx : xs = [] := List.length_eq_zero_iff.1 (of_decide_eq_true h)
  subst hx
  unfold zay inB at hm
  simp only [Bool.and_eq_true, decide_eq_true_eq] at hm
  simp only [List.map_nil, List.sum_nil, List.length_nil]
  omega
 ·rw [zhu hm] at h
  simp only [Bool.and_eq_true] at h
  have h1 : zcs m = true := h.1.1
  unfold zcs inB at h1
  simp only [Bool.and_eq_true, decide_eq_true_eq] at h1
  have h2 := zoh fun x hx => ih x hx (List.all_eq_true.1 h.2 x hx)
  omega
theorem zqi {a : Tm} (h : a.atomOk = true) : a.wt <= 512 := by
 rw [zft, Bool.and_eq_true] at h
 obtain ⟨h1, h2⟩ := h
 have h4 := (zol h1).2
 have hl : a.name.length <= 6 := by
  unfold nmA at h1
  split at h1
  ·rename_i he
   rw [beq_iff_eq.1 he]; simp
  ·rw [Bool.and_eq_true] at h1
   have h1 := h1.1
   unfold zcs inB at h1
   simp only [Bool.and_eq_true, decide_eq_true_eq] at h1
   omega
 unfold zcx at h2
 simp only [Bool.and_eq_true, decide_eq_true_eq] at h2
 have hn := a.nodes_eq
 have hw := a.wt_eq
 have h5 := zoh fun x hx => zt4 x (List.all_eq_true.1 h4 x hx)
 omega
end Go.Proofs.YtemnhgmgeijkcaaGreat
namespace Go.Proofs.YtemnhgmgeijkcaaGreat
set_option linter.unusedSimpArgs false
set_option linter.unusedVariables false
set_option linter.unusedSectionVars false
set_option maxRecDepth 4000
open Go.RowKit
def orE (x y : Int) : Int := if x = 0 then y else x
structure GCmp {α : Type} (c : α -> α -> Int) : Prop where
 neg : ∀ a b, c b a = - c a b
 tr : ∀ a b d, c a b <= 0 -> c b d <= 0 -> c a d <= 0
section
variable {α β : Type} {c c1 c2 : α -> α -> Int}
theorem GCmp.self (h : GCmp c) (a : α) : c a a = 0 := by have := h.neg a a; omega
theorem GCmp.comp (h : GCmp c) (f : β -> α) : GCmp fun x y => c (f x) (f y) := ⟨fun a b => h.neg _ _, fun a b d => h.tr _ _ _⟩
theorem GCmp.lex (h1 : GCmp c1) (h2 : GCmp c2) : GCmp fun a b => orE (c1 a b) (c2 a b) := by
 refine ⟨fun a b => ?_, fun a b d => ?_⟩
 ·have n1 := h1.neg a b
  have n2 := h2.neg a b
  unfold orE
  split <;> split <;> omega
 ·have t1 := h1.tr a b d
  have t2 := h2.tr a b d
  have n1 := h1.neg a b
  have n2 := h1.neg b d
  have n3 := h1.neg a d
  have t3 := h1.tr d a b
  have t4 := h1.tr b d a
  unfold orE
  split <;> split <;> split <;> omega
end
def zyc {α : Type} (c : α -> α -> Int) : List α -> List α -> Int
 | [], [] => 0
 | [], _ :: _ => -1
 | _ :: _, [] => 1
 | x :: xs, y :: ys => orE (c x y) (zyc c xs ys)
theorem qco {α : Type} {c : α -> α -> Int} (h : GCmp c) : GCmp (zyc c) := by
 have hn : ∀ a b, zyc c b a = - zyc c a b := by
  intro a
  induction a with
  | nil => intro b; cases b <;> rfl
  | cons x xs ih =>
   intro b
   cases b with
   | nil => rfl
   | cons y ys =>
    have n1 := h.neg x y
    have n2 := ih ys
    unfold zyc orE
    split <;> split <;> omega
 refine ⟨hn, ?_⟩
 intro a
 induction a with
 | nil => intro b d h1 h2; cases d with
  | nil => exact Int.le_refl _
  | cons => unfold zyc; omega
 | cons x xs ih =>
  intro b d h1 h2
  cases b with
  | nil => unfold zyc at h1; omega
  | cons y ys =>
   cases d with
   | nil => unfold zyc at h2; omega
   | cons z zs =>
    have t1 := h.tr x y z
    have t2 := ih ys zs
    have n1 := h.neg x y
    have n2 := h.neg y z
    have n3 := h.neg x z
    have t3 := h.tr z x y
    have t4 := h.tr y z x
    unfold zyc orE at h1 h2 ⊢
    split at h1 <;> split at h2 <;> split <;> omega
def qlw (x y : Bool) : Int := if (x && !y) = true then -1 else if (y && !x) = true then 1 else 0
def cmpN (x y : Nat) : Int := if x < y then -1 else if y < x then 1 else 0
theorem zkz : GCmp qlw := ⟨by decide, by decide⟩
theorem zoi : GCmp cmpN := by
 refine ⟨fun a b => ?_, fun a b d => ?_⟩ <;> unfold cmpN <;> repeat' split
 all_goals omega
theorem zqf : GCmp zyg := by
 have hc : ∀ s t : Str, zyg s t = if s < t then -1 else if s = t then 0 else 1 := fun s t => by
  unfold zyg
  rw [zno]
  simp only [decide_eq_true_eq, beq_iff_eq]
 have tot : ∀ s t : Str, ¬ s < t -> s ≠ t -> t < s := fun s t h1 h2 => by
  rcases List.le_iff_lt_or_eq.1 (List.not_lt.1 h1) with h | h
  ·exact h
  ·exact absurd h.symm h2
 refine ⟨fun a b => ?_, fun a b d => ?_⟩
 ·rw [hc, hc]
  by_cases h1 : a < b
  ·have h2 : ¬ b < a := fun h => zji a (List.lt_trans h1 h)
   have h3 : b ≠ a := fun e => zji a (e ▸ h1)
   rw [if_pos h1, if_neg h2, if_neg h3]; rfl
  ·by_cases h2 : a = b
   ·subst h2
    rw [if_neg h1, if_pos rfl]; rfl
   ·rw [if_neg h1, if_neg h2, if_pos (tot _ _ h1 h2)]
 ·rw [hc, hc, hc]
  intro h1 h2
  by_cases h3 : a < b
  ·by_cases h4 : b < d
   ·rw [if_pos (List.lt_trans h3 h4)]; omega
   ·rw [if_neg h4] at h2
    by_cases h5 : b = d
    ·subst h5; rw [if_pos h3]; omega
    ·rw [if_neg h5] at h2; omega
  ·rw [if_neg h3] at h1
   by_cases h4 : a = b
   ·subst h4; exact h2
   ·rw [if_neg h4] at h1; omega
theorem zju {s t : Str} : zyg s t = 0 ↔ s = t := by
 unfold zyg
 rw [zno]
 by_cases h : s < t
 ·have : s ≠ t := fun e => zji t (e ▸ h)
  simp [h, this]
 ·by_cases h2 : s = t
  ·simp [h2]
  ·simp [h, h2]
def hdT (a b : Tm) : Int := orE (qlw (zay a.name) (zay b.name)) (orE (zyg a.name b.name) (cmpN a.args.length b.args.length))
mutual
def zgk : Tm -> Tm -> Int
 | .mk n xs, b => orE (hdT (.mk n xs) b) (zhx xs b.args)
def zhx : List Tm -> List Tm -> Int
 | [], _ => 0
 | _ :: _, [] => 0
 | x :: xs, y :: ys => orE (zgk x y) (zhx xs ys)
end
theorem zsb (a b : Tm) : zgk a b = orE (hdT a b) (zhx a.args b.args) := by cases a; rw [zgk]; rfl
def cmpK : Nat -> Tm -> Tm -> Int
 | 0, _, _ => 0
 | k + 1, a, b => orE (hdT a b) (zyc (cmpK k) a.args b.args)
theorem qfg : GCmp hdT := GCmp.lex (zkz.comp fun a : Tm => zay a.name) (GCmp.lex (zqf.comp Tm.name) (zoi.comp fun a : Tm => a.args.length))
theorem zj1 : ∀ k, GCmp (cmpK k)
 | 0 => ⟨fun _ _ => rfl, fun _ _ _ _ _ => Int.le_refl _⟩
 | k + 1 => GCmp.lex qfg ((qco (zj1 k)).comp Tm.args)
theorem znj {a b : Tm} : hdT a b = 0 ↔ a.name = b.name /\ a.args.length = b.args.length := by
 unfold hdT
 constructor
 ·intro h
  unfold orE at h
  split at h
  ·split at h
   ·rename_i h2
    refine ⟨zju.1 h2, ?_⟩
    unfold cmpN at h
    split at h
    ·omega
    ·split at h <;> omega
   ·exact absurd h ‹_›
  ·exact absurd h ‹_›
 ·rintro ⟨h1, h2⟩
  rw [h1, h2, zkz.self, zqf.self, zoi.self]; rfl
def Tm.dp : Tm -> Nat := Tm.fold fun _ _ rs => 1 + rs.sum
theorem Tm.dp_eq (a : Tm) : a.dp = 1 + (a.args.map Tm.dp).sum := Tm.fold_eq _ a
theorem zt5 (c : Tm -> Tm -> Int) : ∀ (xs ys : List Tm), xs.length = ys.length -> (∀ x ∈ xs, ∀ y, zgk x y = c x y) -> zhx xs ys = zyc c xs ys
 | [], [], _, _ => by rw [zhx]; rfl
 | [], _ :: _, h, _ => by simp at h
 | _ :: _, [], h, _ => by simp at h
 | x :: xs, y :: ys, h, H => by
  rw [zhx, zyc, H x (by simp) y, zt5 c xs ys (by simpa using h) fun x hx => H x (by simp [hx])]
theorem zui : ∀ (a : Tm) (k : Nat), a.dp <= k -> ∀ b, zgk a b = cmpK k a b := zba fun n xs ih k hk b => by
 have hd : (Tm.mk n xs).dp = 1 + (xs.map Tm.dp).sum := Tm.dp_eq _
 cases k with
 | zero => omega
 | succ k =>
  rw [zsb, cmpK]
  by_cases h : hdT (.mk n xs) b = 0
  ·rw [show (Tm.mk n xs).args = xs from rfl, zt5 (cmpK k) xs b.args (znj.1 h).2 fun x hx y => ih x hx k (by have := zbk Tm.dp xs x hx; omega) y]
  ·unfold orE
   rw [if_neg h, if_neg h]
theorem zhe (a b : Tm) : zgk b a = - zgk a b := by
 rw [zui a (a.dp + b.dp) (by omega), zui b (a.dp + b.dp) (by omega)]
 exact (zj1 _).neg a b
theorem zrq (a b d : Tm) (h1 : zgk a b <= 0) (h2 : zgk b d <= 0) : zgk a d <= 0 := by
 rw [zui a (a.dp + b.dp) (by omega)] at h1 ⊢
 rw [zui b (a.dp + b.dp) (by omega)] at h2
 exact (zj1 _).tr a b d h1 h2
theorem zzp : GCmp zgk := ⟨zhe, zrq⟩
theorem qej : ∀ a b : Tm, zgk a b = 0 ↔ a = b := zba fun n xs ih b => by
 rw [zsb]
 have hts : ∀ (xs : List Tm), (∀ x ∈ xs, ∀ b, zgk x b = 0 ↔ x = b) -> ∀ ys, xs.length = ys.length -> (zhx xs ys = 0 ↔ xs = ys) := fun xs => by
  induction xs with
  | nil => intro _ ys h; cases ys with
   | nil => simp [zhx]
   | cons => simp at h
  | cons x xs ih2 =>
   intro H ys h
   cases ys with
   | nil => simp at h
   | cons y ys =>
    have h1 := H x (by simp) y
    have h2 := ih2 (fun x hx => H x (by simp [hx])) ys (by simpa using h)
    rw [zhx, List.cons.injEq, <- h1, <- h2]
    unfold orE
    split
    ·rename_i e; simp [e]
    ·rename_i e; simp [e]
 constructor
 ·intro h
  unfold orE at h
  split at h
  ·rename_i h0
   obtain ⟨e1, e2⟩ := znj.1 h0
   have := (hts xs ih b.args e2).1 h
   cases b with
   | mk m ys =>
    obtain rfl : n = m := e1
    obtain rfl : xs = ys := this
    rfl
  ·exact absurd h ‹_›
 ·rintro rfl
  rw [znj.2 ⟨rfl, rfl⟩]
  exact (hts xs ih xs rfl).2 rfl
def ltT (a b : Tm) : Bool := decide (zgk a b < 0)
noncomputable def zke (l : List Tm) (t : Tm) : List Tm := if dec ((l.dropWhile fun x => ltT x t).head? = some t) = true then l else l.takeWhile (fun x => ltT x t) ++ [t] ++ l.dropWhile fun x => ltT x t
abbrev SrtT (l : List Tm) : Prop := l.Pairwise fun a b => zgk a b < 0
theorem zm2 {a b d : Tm} (h1 : zgk a b < 0) (h2 : zgk b d <= 0) : zgk a d < 0 := by
 have n1 := zhe a b
 have n2 := zhe b d
 have n3 := zhe a d
 have t1 := zrq a b d
 have t2 := zrq b d a
 omega
theorem qgp {l : List Tm} {t x : Tm} : x ∈ zke l t ↔ x ∈ l \/ x = t := by
 unfold zke
 split
 ·rename_i h
  have : t ∈ l := (List.dropWhile_suffix _).subset (List.mem_of_mem_head? (zew.1 h))
  constructor
  ·exact Or.inl
  ·rintro (h | rfl)
   ·exact h
   ·exact this
 ·conv => rhs; rw [<- List.takeWhile_append_dropWhile (p := fun x => ltT x t) (l := l)]
  simp only [List.mem_append, List.mem_singleton]
  constructor
  ·rintro ((h | h) | h)
   ·exact Or.inl (Or.inl h)
   ·exact Or.inr h
   ·exact Or.inl (Or.inr h)
  ·rintro ((h | h) | h)
   ·exact Or.inl (Or.inl h)
   ·exact Or.inr h
   ·exact Or.inl (Or.inr h)
theorem qho {l : List Tm} (hs : SrtT l) (t : Tm) : SrtT (zke l t) := by
 unfold zke
 split
 ·exact hs
 ·rename_i h
  have hl := List.takeWhile_append_dropWhile (p := fun x => ltT x t) (l := l)
  have hs' := hs
  rw [<- hl] at hs'
  unfold SrtT at hs' ⊢
  rw [List.pairwise_append] at hs'
  obtain ⟨s1, s2, s3⟩ := hs'
  have h1 : ∀ x ∈ l.takeWhile (fun x => ltT x t), zgk x t < 0 := fun x hx => by
   exact of_decide_eq_true (List.all_eq_true.1 (List.all_takeWhile (p := fun x => ltT x t) (l := l)) x hx)
  have h2 : ∀ x ∈ l.dropWhile (fun x => ltT x t), zgk t x < 0 := fun x hx => by
   cases hd : l.dropWhile fun x => ltT x t with
   | nil => rw [hd] at hx; cases hx
   | cons y ys =>
    have hy : ltT y t = false := by
     have := List.head?_dropWhile_not (fun x => ltT x t) l
     rw [hd] at this
     simpa using this
    rw [hd] at h s2 hx
    have hy1 : ¬ zgk y t < 0 := of_decide_eq_false hy
    have hy2 : zgk y t ≠ 0 := fun e => h (zew.2 (by rw [List.head?_cons, (qej y t).1 e]))
    have hty : zgk t y < 0 := by have := zhe y t; omega
    rcases List.mem_cons.1 hx with rfl | hx
    ·exact hty
    ·exact zm2 hty (Int.le_of_lt ((List.pairwise_cons.1 s2).1 x hx))
  rw [List.pairwise_append, List.pairwise_append]
  refine ⟨⟨s1, List.pairwise_singleton _ _, fun a ha b hb => ?_⟩, s2, fun a ha b hb => ?_⟩
  ·rw [List.mem_singleton] at hb; subst hb; exact h1 a ha
  ·rcases List.mem_append.1 ha with ha | ha
   ·exact s3 a ha b hb
   ·rw [List.mem_singleton] at ha; subst ha; exact h2 b hb
theorem zxe {l : List Tm} (h : SrtT l) : l.Nodup := List.Pairwise.imp (fun {a b} h e => by subst e; rw [zzp.self] at h; omega) h
end Go.Proofs.YtemnhgmgeijkcaaGreat
namespace Go.Proofs.YtemnhgmgeijkcaaGreat
set_option linter.unusedSimpArgs false
set_option linter.unusedVariables false
set_option linter.unusedSectionVars false
set_option maxRecDepth 4000
open Go.RowKit
def atF : Fm -> List Tm := Fm.fold fun o a _ _ rs => if (o == 3) = true then [a] else rs.flatten
theorem zgb (f : Fm) : atF f = if (f.op == 3) = true then [f.atom] else (f.parts.map atF).flatten := Fm.fold_eq _ f
def evF : Fm -> (Tm -> Bool) -> Bool := Fm.fold fun o a _ _ rs v =>
 if (o == 1) = true then true else if (o == 3) = true then v a else if (o == 4) = true then !((rs.map fun r => r v).getD 0 false)
 else if (o == 5) = true then (rs.map fun r => r v).getD 0 false && (rs.map fun r => r v).getD 1 false
 else if (o == 6) = true then (rs.map fun r => r v).getD 0 false || (rs.map fun r => r v).getD 1 false
 else if (o == 7) = true then !((rs.map fun r => r v).getD 0 false) || (rs.map fun r => r v).getD 1 false else false
def evs (f : Fm) (v : Tm -> Bool) : List Bool := f.parts.map fun p => evF p v
theorem ze5 (f : Fm) (v : Tm -> Bool) : evF f v = if (f.op == 1) = true then true else if (f.op == 3) = true then v f.atom else if (f.op == 4) = true then !((evs f v).getD 0 false)
 else if (f.op == 5) = true then (evs f v).getD 0 false && (evs f v).getD 1 false
 else if (f.op == 6) = true then (evs f v).getD 0 false || (evs f v).getD 1 false
 else if (f.op == 7) = true then !((evs f v).getD 0 false) || (evs f v).getD 1 false else false := by
 cases f with
 | mk o a w ps =>
  conv => lhs; unfold evF; rw [Fm.fold_eq]
  simp only [List.map_map]
  rfl
theorem qc0 : ∀ (f : Fm) (v w : Tm -> Bool), (∀ t ∈ atF f, v t = w t) -> evF f v = evF f w := za7 fun o a x ps ih v w h => by
 rw [ze5, ze5]
 rw [zgb] at h
 have eO : (Fm.mk o a x ps).op = o := rfl
 have eA : (Fm.mk o a x ps).atom = a := rfl
 have eP : (Fm.mk o a x ps).parts = ps := rfl
 simp only [eO, eA, eP] at h ⊢
 cases h3 : o == 3
 ·rw [h3, if_neg (by simp)] at h
  have he : evs (.mk o a x ps) v = evs (.mk o a x ps) w := by
   unfold evs
   exact List.map_congr_left fun p hp => ih p hp v w fun t ht => h t (List.mem_flatten.2 ⟨atF p, List.mem_map_of_mem hp, ht⟩)
  rw [he]; rfl
 ·rw [h3, if_pos rfl] at h
  have := h a (by simp)
  have e1 : o = 3 := by simpa using h3
  subst e1
  simpa using this
def zqb (f : Fm) : Prop := ∀ v, evF f v = true
theorem zzt : ∀ l : List Bool, ∃ m, m < 2 ^ l.length /\ ∀ i (h : i < l.length), m.testBit i = l[i]
 | [] => ⟨0, by simp, fun i h => by simp at h⟩
 | b :: l => by
  obtain ⟨m, h1, h2⟩ := zzt l
  refine ⟨2 * m + b.toNat, ?_, fun i h => ?_⟩
  ·rw [List.length_cons, Nat.pow_succ]
   have : b.toNat <= 1 := by cases b <;> simp
   omega
  ·cases i with
   | zero => cases b <;> simp [Nat.testBit_zero] <;> omega
   | succ i =>
    have : (2 * m + b.toNat) / 2 = m := by cases b <;> simp <;> omega
    rw [Nat.testBit_succ, this, h2 i (by simpa using h)]
    simp
noncomputable def ixT (l : List Tm) (t : Tm) : Nat := (zn5 l fun a => same a t).toNat
theorem zz2 {l : List Tm} {t : Tm} (h : t ∈ l) : ∃ hi : ixT l t < l.length, l[ixT l t] = t /\ (zn5 l fun a => same a t) = (ixT l t : Nat) := by
 obtain ⟨k, hk, h1, h2⟩ : ∃ k, ∃ hk : k < l.length, l[k] = t /\ ∀ x ∈ l.take k, x ≠ t := by
  induction l with
  | nil => cases h
  | cons a l ih =>
   by_cases e : a = t
   ·exact ⟨0, by simp, by simpa using e, by simp⟩
   ·have hm : t ∈ l := by
     rcases List.mem_cons.1 h with h | h
     ·exact absurd h.symm e
     ·exact h
    obtain ⟨k, hk, h1, h2⟩ := ih hm
    refine ⟨k + 1, by simpa using hk, by simpa using h1, fun x hx => ?_⟩
    rw [List.take_succ_cons] at hx
    rcases List.mem_cons.1 hx with rfl | hx
    ·exact e
    ·exact h2 x hx
 have hI : (zn5 l fun a => same a t) = (k : Nat) := zec hk (fun x hx => zct.2 (h2 x hx)) (by rw [h1]; exact zbd _)
 have hx : ixT l t = k := by unfold ixT; rw [hI]; rfl
 rw [hx]
 exact ⟨hk, h1, hI⟩
theorem zo6 {f : Fm} {l : List Tm} (hl : ∀ t ∈ atF f, t ∈ l) : (∀ m, m < 2 ^ l.length -> evF f (fun t => m.testBit (ixT l t)) = true) ↔ zqb f := by
 constructor
 ·intro h v
  obtain ⟨m, h1, h2⟩ := zzt (l.map v)
  rw [List.length_map] at h1
  rw [<- h m h1]
  refine qc0 f _ _ fun t ht => ?_
  obtain ⟨hi, h3, _⟩ := zz2 (hl t ht)
  have := h2 (ixT l t) (by simpa using hi)
  rw [this, List.getElem_map, h3]
 ·intro h m _
  exact h _
noncomputable def zm8 (l : List Tm) (t : Tm) : List Tm := if (l.any fun a => same a t) = true then l else l ++ [t]
theorem qg4 {l : List Tm} {t x : Tm} : x ∈ zm8 l t ↔ x ∈ l \/ x = t := by
 unfold zm8
 split
 ·rename_i h
  obtain ⟨y, hy, h⟩ := List.any_eq_true.1 h
  have := zcj.1 h
  subst this
  constructor
  ·exact Or.inl
  ·rintro (h | rfl)
   ·exact h
   ·exact hy
 ·rw [List.mem_append, List.mem_singleton]
theorem qka {l : List Tm} (h : l.Nodup) (t : Tm) : (zm8 l t).Nodup := by
 unfold zm8
 split
 ·exact h
 ·rename_i h2
  rw [List.nodup_append]
  refine ⟨h, by simp, fun a ha b hb e => h2 (List.any_eq_true.2 ⟨a, ha, ?_⟩)⟩
  rw [List.mem_singleton] at hb
  rw [zcj, e, hb]
theorem zj8 : ∀ (ts l : List Tm) (x : Tm), x ∈ ts.foldl zm8 l ↔ x ∈ l \/ x ∈ ts
 | [], l, x => by simp
 | t :: ts, l, x => by rw [List.foldl_cons, zj8 ts, qg4, List.mem_cons, or_assoc]
theorem zuh : ∀ (ts : List Tm) {l : List Tm}, l.Nodup -> (ts.foldl zm8 l).Nodup
 | [], _, h => h
 | t :: ts, _, h => zuh ts (qka h t)
theorem zj6 : ∀ (ts l : List Tm) (x : Tm), x ∈ ts.foldl zke l ↔ x ∈ l \/ x ∈ ts
 | [], l, x => by simp
 | t :: ts, l, x => by rw [List.foldl_cons, zj6 ts, qgp, List.mem_cons, or_assoc]
theorem zqw : ∀ (ts : List Tm) {l : List Tm}, SrtT l -> SrtT (ts.foldl zke l)
 | [], _, h => h
 | t :: ts, _, h => zqw ts (qho h t)
noncomputable def qip (f : Fm) : List Tm := (atF f).foldl zm8 []
noncomputable def qle (f : Fm) : List Tm := (atF f).foldl zke []
theorem qlo (f : Fm) : (qip f).length = (qle f).length := by
 have h1 : (qip f).Nodup := zuh _ List.nodup_nil
 have h2 : (qle f).Nodup := zxe (zqw _ List.Pairwise.nil)
 refine List.Perm.length_eq ((List.perm_ext_iff_of_nodup h1 h2).2 fun t => ?_)
 unfold qip qle
 rw [zj8, zj6]
theorem qfs {f : Fm} {t : Tm} (h : t ∈ atF f) : t ∈ qip f := (zj8 _ _ _).2 (Or.inr h)
theorem qgw {f : Fm} {t : Tm} (h : t ∈ atF f) : t ∈ qle f := (zj6 _ _ _).2 (Or.inr h)
noncomputable def zxt (f : Fm) : Bool × Bool := if (qip f).length <= 12 then (dec (zqb f), true) else (false, false)
end Go.Proofs.YtemnhgmgeijkcaaGreat
namespace Go.Proofs.YtemnhgmgeijkcaaGreat
set_option linter.unusedSimpArgs false
set_option linter.unusedVariables false
set_option linter.unusedSectionVars false
set_option maxRecDepth 4000
open Go.RowKit
section
variable {P : Program}
theorem ct0_A {n0 : Nat -> Prop} {N : Nat} {σ : St} {g : Gh} {a : Act} {w : World} (hR : Rel n0 N σ g a w) {c : C} {t : T} (h : CT0 σ c t) {v : Value} (hv : CR σ g w c v) : zao w (fun b => b < w.heap.size /\ g.A0 b) t v := by
 have hF : ∀ b, Fix σ g w b -> b < w.heap.size /\ g.A0 b := fun b hb => ⟨hb.2.2.1, hb.2.2.2⟩
 have hFr : ∀ b, zca σ g w b -> b < w.heap.size /\ g.A0 b := fun b hb => hF b hb.1
 cases c with
 | t x =>
  have h : x = t := h
  subst h
  exact zao.keep (fun _ _ => rfl) hF x v hv
 | rn x =>
  have h : x = t := h
  subst h
  exact zao.keep (fun _ _ => rfl) hFr x v hv
 | nl s =>
  cases t with
  | sl sz rows =>
   have h : rows = [] := h
   subst h
   have hv : v = .slice none 0 0 := hv
   subst hv
   unfold zao
   exact ⟨none, 0, rfl, Nat.le_refl _, by simp, Or.inl rfl⟩
  | _ => exact h.elim
 | ow e n =>
  cases t with
  | sl sz rows =>
   obtain ⟨d, o, he⟩ := h
   obtain ⟨rfl, -⟩ := hv
   cases o
   ·exact zao.keep (fun _ _ => rfl) hF _ _ (hR.offs e _ he rfl).1
   ·have hOn : σ.On e := ⟨_, he, rfl⟩
    have hlt : ∀ b ∈ g.φ e, b < w.heap.size := (hR.evs e _ he rfl).lt
    obtain ⟨ao, cap, e1, e2, e3, e4⟩ := hR.evs e _ he rfl
    unfold zao
    refine ⟨ao, cap, e1, e2, e3, ?_⟩
    rcases e4 with ⟨_, _, e4, _⟩ | ⟨b, cells, ty, fps, k1, k2, k3, k4, k5⟩
    ·exact Or.inl e4
    ·have hA : ∀ b' ∈ g.φ e, b' < w.heap.size /\ g.A0 b' := fun b' hb' => ⟨hlt b' hb', (hR.ebase e hOn b' hb').1⟩
     refine Or.inr ⟨b, 0, k1, hA b (by rw [k2]; simp), ?_⟩
     split at k5
     ·exact zag.rep b cells ty k3 0 sz rows fps k5 fun b' hb' => hA b' (by rw [k2]; simp [hb'])
     ·exact zap.keep (fun _ _ => rfl) hF b rfl 0 sz rows k5.2
  | _ => exact h.elim
 | el cs o =>
  cases t with
  | ptr cs' =>
   obtain ⟨rfl, rfl⟩ := h
   obtain ⟨b, q, h1, h2, h3⟩ := hv
   unfold zao
   exact ⟨b, q, h1, hF b h2, za8.keep (fun _ _ => rfl) hF b rfl q cs h3⟩
  | _ => exact h.elim
 | er cs o =>
  cases t with
  | ptr cs' =>
   obtain ⟨rfl, rfl⟩ := h
   obtain ⟨b, q, h1, h2, h3⟩ := hv
   unfold zao
   exact ⟨b, q, h1, hFr b h2, za8.keep (fun _ _ => rfl) hFr b rfl q cs h3⟩
  | _ => exact h.elim
 | _ => cases t <;> exact h.elim
theorem qjf {n0 : Nat -> Prop} {N : Nat} {σ : St} {g : Gh} {a : Act} {w : World} (hR : Rel n0 N σ g a w) : ∀ {cs : List C} {ts : List T}, zn8 σ cs ts -> ∀ {vs : List Value}, CRs σ g w cs vs -> zae w (fun b => b < w.heap.size /\ g.A0 b) ts vs
 | [], ts, h, vs, hv => by rw [show ts = [] from h]; unfold zae; exact hv
 | c :: cs, ts, h, vs, hv => by
  obtain ⟨t, ts', rfl, h1, h2⟩ := h
  obtain ⟨v, vs', rfl, k1, k2⟩ := hv
  unfold zae
  exact ⟨v, vs', rfl, ct0_A hR h1 k1, qjf hR h2 k2⟩
def RVe (σ : St) : List V -> List D -> Prop
 | [], [] => True
 | .one c :: vs, .one t :: ds => CT0 σ c t /\ RVe σ vs ds
 | .agg cs :: vs, .agg ts :: ds => zn8 σ cs ts /\ RVe σ vs ds
 | _, _ => False
theorem RVe.rep {n0 : Nat -> Prop} {N : Nat} {σ : St} {g : Gh} {a : Act} {w : World} (hR : Rel n0 N σ g a w) : ∀ {vs : List V} {ds : List D}, RVe σ vs ds -> ∀ {us : List Value}, VRl σ g w vs us -> za9 w (fun b => b < w.heap.size /\ g.A0 b) ds us
 | [], [], _, us, hv => hv
 | .one c :: vs, .one t :: ds, h, us, hv => by
  obtain ⟨u, us', rfl, k1, k2⟩ := hv
  exact ⟨u, us', rfl, ct0_A hR h.1 k1, RVe.rep hR h.2 k2⟩
 | .agg cs :: vs, .agg ts :: ds, h, us, hv => by
  obtain ⟨u, us', rfl, ⟨q, rfl, k1⟩, k2⟩ := hv
  exact ⟨_, us', rfl, ⟨q, rfl, qjf hR h.1 k1⟩, RVe.rep hR h.2 k2⟩
 | [], _ :: _, h, _, _ => h.elim
 | .one _ :: _, [], h, _, _ => h.elim
 | .one _ :: _, .agg _ :: _, h, _, _ => h.elim
 | .agg _ :: _, [], h, _, _ => h.elim
 | .agg _ :: _, .one _ :: _, h, _, _ => h.elim
 | .tup _ :: _, [], h, _, _ => h.elim
 | .tup _ :: _, _ :: _, h, _, _ => h.elim
def PRe (P : Program) (rs : List ResultVar) (res : List D) (e : Exit) (σ : St) : Prop := match e with
 | .normal => zaq (zbg P σ rs) fun vs => RVe σ vs res
 | .ret => zaq (zbg P σ rs) fun vs => RVe σ vs res
 | _ => False
theorem zou {f : FuncId} {fn : Func} {c : Code} {args res : List D} (hc : zaz P f) (hf : P.funcs[f]? = some fn) (hb : fn.body = some c) (hd : zbb fn.ntmps c = true) (hN : (rd args).length <= fn.ntmps)
  (h : ex P c [] (PRe P fn.results.toList res) (zdc (rd args))) : RC P f args res := by
 refine ⟨hc, fun w vs A hv => ?_⟩
 refine calls_of_wp hf hb ?_
 have hg : ∀ (ds : List D) (vs : List Value), za9 w (fun b => b < w.heap.size /\ A b) ds vs -> zar w (fun b => b < w.heap.size /\ A b /\ b ∉ ([] : List Nat)) (rd ds) vs [] [] := by
  intro ds
  induction ds with
  | nil => intro vs h; exact ⟨h, rfl, rfl⟩
  | cons d ds ih =>
   rintro vs ⟨v, vs', rfl, h1, h2⟩
   refine ⟨v, vs', rfl, ?_, ih _ h2⟩
   cases d with
   | one t => exact zao.keep (fun _ _ => rfl) (fun b hb => ⟨hb.1, hb.2, by simp⟩) t _ h1
   | agg ts => obtain ⟨a, h0, h1⟩ := h1; exact ⟨a, h0, zae.keep (fun _ _ => rfl) (fun b hb => ⟨hb.1, hb.2, by simp⟩) ts a h1⟩
 obtain ⟨g, hg, hR⟩ := Rel.start (A := A) (A0 := fun b => A b \/ w.heap.size <= b) (R0 := RP.of fun _ => True) (N := fn.ntmps) (hg _ _ hv) List.nodup_nil (zch args) hN (fun _ hb => Or.inl hb) (fun b hb => by simp at hb) (fun b hb => ⟨Or.inr (by
  refine Nat.le_of_not_lt fun hlt => hb ⟨hlt, by simp⟩), trivial⟩)
 refine wp_mono (zbe (w0 := w) c (zdc (rd args)) _ hd h g _ w hR (fun k hk => hk.1) (Bk.refl _ _) hg) fun e a' w' hq => ?_
 obtain ⟨σ', g', h1, h2, h3, h4, h5⟩ := hq
 have key : zaq (zbg P σ' fn.results.toList) (fun vs => RVe σ' vs res) -> ∃ v, (results fn a'.tmps).run P w' = .ok v w' /\ ∃ us, Ending.returned v = .returned (zbp us) /\ za9 w' (fun b => b < w'.heap.size /\ (A b \/ w.heap.size <= b)) res us /\ Below w.heap.size w w' := fun hk => by
  unfold zaq at hk
  split at hk
  ·rename_i vs hvs
   obtain ⟨us, r1, r2⟩ := zbi h2 fn hvs
   refine ⟨_, r1, us, rfl, (RVe.rep h2 hk r2).keep (fun _ _ => rfl) fun b hb => ⟨hb.1, ?_⟩, h4.os, h4.tape, h4.output, h4.size, fun k hk => h4.block k ⟨hk, by simp⟩⟩
   have := hb.2
   simp only [Prod.mk.injEq] at h5
   rw [h5.1] at this
   exact this
  ·exact hk.elim
 cases e with
 | normal => exact ⟨h2.defers, key h1⟩
 | ret => exact ⟨h2.defers, key h1⟩
 | exit _ => exact h1.elim
 | goto _ => exact h1.elim
 | panic _ => exact h1.elim
 | outgrown => exact h1.elim
attribute [go_sem] PRe RVe
end
end Go.Proofs.YtemnhgmgeijkcaaGreat
namespace Go.Proofs.YtemnhgmgeijkcaaGreat
set_option linter.unusedSimpArgs false
set_option linter.unusedVariables false
set_option linter.unusedSectionVars false
set_option maxRecDepth 4000
open Go.RowKit
theorem zqk {α : Type} (L : List (List α)) (k : Nat) : (L.take k).flatten.length <= L.flatten.length := by
 have := congrArg (fun l => l.flatten.length) (List.take_append_drop k L)
 simp only [List.flatten_append, List.length_append] at this
 omega
theorem zi6 {α β : Type} (f : α -> List β) (w : α -> Nat) : ∀ (l : List α), (∀ x ∈ l, (f x).length <= w x) -> (l.map f).flatten.length <= (l.map w).sum
 | [], _ => by simp
 | a :: l, h => by
  have h1 := h a (by simp)
  have h2 := zi6 f w l fun x hx => h x (by simp [hx])
  simp only [List.map_cons, List.flatten_cons, List.length_append, List.sum_cons]
  omega
theorem zyv {α : Type} (w : α -> Nat) : ∀ xs : List α, (xs.map fun x => 1 + w x).sum = xs.length + (xs.map w).sum
 | [] => rfl
 | a :: l => by rw [List.map_cons, List.sum_cons, zyv w l, List.length_cons, List.map_cons, List.sum_cons]; omega
theorem qj6 : ∀ a : Tm, (voI a).length <= 1 + a.wt := zba fun n xs ih => by
 rw [zt2]
 split
 ·simp only [List.length_cons, List.length_nil]; omega
 ·have h1 := zi6 voI (fun x => 1 + x.wt) xs ih
  have h2 := zyv Tm.wt xs
  have h3 := Tm.wt_eq (.mk n xs)
  simp only [Tm.name, Tm.args] at h3 ⊢
  omega
end Go.Proofs.YtemnhgmgeijkcaaGreat
namespace Go.Proofs.YtemnhgmgeijkcaaGreat
set_option linter.unusedSimpArgs false
set_option linter.unusedVariables false
set_option linter.unusedSectionVars false
set_option maxRecDepth 4000
open Go.RowKit
theorem zsp : ∀ f : Fm, (atF f).length <= f.nodes := za7 fun o a v ps ih => by
 rw [zgb, Fm.nodes_eq]
 split
 ·simp
 ·have := zi6 atF Fm.nodes ps ih
  simp only [Fm.parts]
  omega
theorem zmy (f : Fm) {k : Nat} (hlt : k < f.parts.length) : ((f.parts.map atF).take (k + 1)).flatten = ((f.parts.map atF).take k).flatten ++ atF f.parts[k] := by
 rw [List.take_succ_eq_append_getElem (by simpa using hlt), List.getElem_map, List.flatten_append, List.flatten_singleton]
theorem zxm (f : Fm) (hw : f.wt <= 1048576) (H : ∀ p ∈ f.parts, RC Tryz.prog 193 [fmD p] [.one (tmS (atF p))]) : RC Tryz.prog 193 [fmD f] [.one (tmS (atF f))] := by
 have hv := zgb f
 have hl := zsp f
 have hn := zcd f
 have hW := f.wt_eq
 simp only [fmD, zac f]
 cases h3 : f.op == 3
 ·rw [h3, if_neg (by simp)] at hv
  rw [hv] at hl ⊢
  refine zou Tryz.call193 Tryz.func193 rfl (by kernel_rfl) (zav (by kernel_rfl)) ?_
  simp -implicitDefEqProofs only [go_sem, Tryz.results193]
  simp -implicitDefEqProofs only [go_sem, h3]
  refine zep (by simp -implicitDefEqProofs only [go_sem]) ?_
  simp -implicitDefEqProofs only [go_sem]
  refine zad (fun k : Nat => hd [(3, .one (.ow 384 0)), (14, vT (fmS f.parts)), (15, vI f.parts.length), (16, vI k)] [] [(384, ⟨false, 2, ((f.parts.map atF).take k).flatten.map tmC, 0, true⟩)]) (fun k => k <= f.parts.length) (fun k => f.parts.length - k) 0 (zab ?_) (Nat.zero_le _) ?_
  ·simp -implicitDefEqProofs only [go_sem]
  ·intro k hk
   by_cases hlt : k < f.parts.length
   ·have hT := zmy f hlt
    have hg := zqk (f.parts.map atF) (k + 1)
    rw [hT, List.length_append] at hg
    have HC := H f.parts[k] (List.getElem_mem hlt)
    simp only [fmD, zac f.parts[k]] at HC
    generalize ((f.parts.map atF).take k).flatten = dn at hT hg ⊢
    generalize atF f.parts[k] = ap at HC hT hg
    have ha1 : dn.length + ap.length <= 4294967296 := by omega
    simp -implicitDefEqProofs only [go_sem, hlt, zai, zac f.parts[k]]
    refine callR (HC) (by simp -implicitDefEqProofs only [go_sem]) ?_
    simp -implicitDefEqProofs only [go_sem]
    refine apD false (by simp -implicitDefEqProofs only [go_sem, ne_eq, List.length_map, ha1]) ?_
    simp -implicitDefEqProofs only [go_sem, ne_eq, List.length_map, ha1]
    refine ⟨k + 1, hlt, by omega, zab ?_⟩
    simp -implicitDefEqProofs only [go_sem]
    rw [zak (by omega), hT, List.map_append]
    exact ⟨rfl, rfl⟩
   ·have ht : (f.parts.map atF).take k = f.parts.map atF := List.take_of_length_le (by simpa using hlt)
    simp -implicitDefEqProofs only [go_sem, hlt, ht]
 ·rw [h3, if_pos rfl] at hv
  rw [hv]
  refine zou Tryz.call193 Tryz.func193 rfl (by kernel_rfl) (zav (by kernel_rfl)) ?_
  simp -implicitDefEqProofs only [go_sem, Tryz.results193]
  simp -implicitDefEqProofs only [go_sem, h3]
  refine zep (by simp -implicitDefEqProofs only [go_sem, zaa]) ?_
  simp -implicitDefEqProofs only [go_sem, zaa]
theorem qes : ∀ f : Fm, f.wt <= 1048576 -> RC Tryz.prog 193 [fmD f] [.one (tmS (atF f))] :=
 za7 fun o a v ps ih hw => zxm (.mk o a v ps) hw fun x hx => ih x hx (Nat.le_trans (zbx (a := .mk o a v ps) hx) hw)
theorem zxr (a t : Tm) : FC Tryz.prog 265 [tmD a, .one (.ptr (tmC t))] [bD (same a t)] := by
 have H := zid a t
 simp only [tmD, zaa] at H ⊢
 refine zaj Tryz.call265 Tryz.func265 rfl (by kernel_rfl) (zav (by kernel_rfl)) ?_
 simp -implicitDefEqProofs only [go_sem, Tryz.results265]
 refine callF (H) (by simp -implicitDefEqProofs only [go_sem]) ?_
 simp -implicitDefEqProofs only [go_sem]
theorem qa2 (ys : List Tm) (t : Tm) (hw : t.wt <= 1048576) (hs : ys.length <= 1048577) : GC Tryz.prog 194 [(true, .one (tmS ys)), (false, tmD t)] [.one (tmS (zm8 ys t))] := by
 have HF := zc0 ys (fun a => same a t) 265 [.ptr (tmC t)] fun x _ => zxr x t
 have HC := zhz t hw
 have hv : zm8 ys t = if (ys.any fun a => same a t) = true then ys else ys ++ [t] := rfl
 have ha : ys.length <= 4294967295 := by omega
 simp only [tmD, zaa t] at HF HC ⊢
 generalize (ys.any fun a => same a t) = b at HF hv
 refine zk7 Tryz.call194 Tryz.func194 rfl (by kernel_rfl) (by simp only [List.length_cons, List.length_nil, Tryz.ntmps194]; omega) (by simp [zbo, T.isPin]) ?_
 simp -implicitDefEqProofs only [go_sem, Tryz.results194]
 refine callF (HF) (by simp -implicitDefEqProofs only [go_sem]) ?_
 simp -implicitDefEqProofs only [go_sem]
 refine ⟨fun h => ?_, fun h => ?_⟩
 ·rw [hv, if_pos (by simpa using h)]
  exact Or.inl rfl
 ·rw [hv, if_neg (by simpa using h)]
  refine callF (HC) (by simp -implicitDefEqProofs only [go_sem]) ?_
  simp -implicitDefEqProofs only [go_sem]
  refine za2 (by simp -implicitDefEqProofs only [go_sem]) ?_
  simp -implicitDefEqProofs only [go_sem]
  refine apD true (by simp -implicitDefEqProofs only [go_sem, ne_eq, List.length_map, ha]) ?_
  simp -implicitDefEqProofs only [go_sem, ne_eq, List.length_map, ha]
  exact Or.inl (by simp [tmS, zaa t])
theorem zpb : ∀ (ts ys : List Tm), (ts.foldl zm8 ys).length <= ys.length + ts.length
 | [], ys => by simp
 | t :: ts, ys => by
  have h1 := zpb ts (zm8 ys t)
  have h2 : (zm8 ys t).length <= ys.length + 1 := by unfold zm8; split <;> simp
  rw [List.foldl_cons, List.length_cons]; omega
theorem atF_wt : ∀ (f : Fm), ∀ t ∈ atF f, t.wt <= f.wt := za7 fun o a v ps ih t ht => by
 have hW := (Fm.mk o a v ps).wt_eq
 rw [zgb] at ht
 simp only [Fm.atom, Fm.var, Fm.parts] at hW
 by_cases h3 : ((Fm.mk o a v ps).op == 3) = true
 ·rw [if_pos h3, List.mem_singleton] at ht
  rw [ht]
  show a.wt <= _
  omega
 ·rw [if_neg h3] at ht
  obtain ⟨l, hl, hx⟩ := List.mem_flatten.1 ht
  obtain ⟨p, hp, rfl⟩ := List.mem_map.1 hl
  have := ih p hp t hx
  have := zbk Fm.wt ps p hp
  omega
theorem ziu (f : Fm) (hw : f.wt <= 1048576) : FC Tryz.prog 134 [fmD f] [.one (tmS (qip f))] := by
 have HA := qes f hw
 have hl := zsp f
 have hn := zcd f
 have ht := atF_wt f
 have hv : qip f = (atF f).foldl zm8 [] := rfl
 rw [hv]
 generalize atF f = L at HA hl ht ⊢
 simp only [fmD, zac f] at HA ⊢
 refine zb8 Tryz.call134 Tryz.func134 rfl (by kernel_rfl) (zav (by kernel_rfl)) ?_
 simp -implicitDefEqProofs only [go_sem, Tryz.results134]
 refine za2 (by simp -implicitDefEqProofs only [go_sem]) ?_
 simp -implicitDefEqProofs only [go_sem]
 refine qdl (HA) (by simp -implicitDefEqProofs only [go_sem]) ?_
 simp -implicitDefEqProofs only [go_sem]
 refine zad (fun k : Nat => hd [(3, .one (.ow 192 0)), (8, .one (.rn (tmS L))), (9, vI L.length), (10, vI k)] [] [(192, ⟨true, 2, ((L.take k).foldl zm8 []).map tmC, 0, true⟩)]) (fun k => k <= L.length) (fun k => L.length - k) 0 (zab ?_) (Nat.zero_le _) ?_
 ·simp -implicitDefEqProofs only [go_sem]
  rfl
 ·intro k hk
  by_cases hlt : k < L.length
  ·have hlen := zpb (L.take k) []
   have hT : (L.take (k + 1)).foldl zm8 [] = zm8 ((L.take k).foldl zm8 []) L[k] := by
    rw [List.take_succ_eq_append_getElem hlt, List.foldl_append]; rfl
   rw [List.length_take, List.length_nil] at hlen
   have HC := qa2 ((L.take k).foldl zm8 []) L[k] (Nat.le_trans (ht _ (List.getElem_mem hlt)) hw) (by omega)
   rw [<- hT] at HC
   simp only [tmD, zaa L[k]] at HC
   simp -implicitDefEqProofs only [go_sem, hlt, zai, zaa L[k]]
   refine zco [8, 9, 10] [14, 15] [] (HC) (by simp -implicitDefEqProofs only [go_sem]) (by simp -implicitDefEqProofs only [go_sem]) (by simp -implicitDefEqProofs only [go_sem]) (by simp -implicitDefEqProofs only [go_sem]) ?_
   simp -implicitDefEqProofs only [go_sem]
   refine ⟨k + 1, hlt, by omega, zcr 192 512 ?_⟩
   simp -implicitDefEqProofs only [go_sem]
   rw [zak (by omega)]
  ·have ht : L.take k = L := List.take_of_length_le (by omega)
   simp -implicitDefEqProofs only [go_sem, hlt, ht]
end Go.Proofs.YtemnhgmgeijkcaaGreat
namespace Go.Proofs.YtemnhgmgeijkcaaGreat
set_option linter.unusedSimpArgs false
set_option linter.unusedVariables false
set_option linter.unusedSectionVars false
set_option maxRecDepth 4000
open Go.RowKit
noncomputable def bv (m : Nat) (l : List Tm) : Tm -> Bool := fun t => m.testBit (ixT l t)
theorem qkq (n : Nat) (h : n < 4096) : IntKind.i64.wrap ((BitVec.ofInt 64 (n : Int) &&& BitVec.ofInt 64 1).toNat : Int) = ((n % 2 : Nat) : Int) := by
 have h1 : (BitVec.ofInt 64 (n : Int) &&& BitVec.ofInt 64 1).toNat = n % 2 := by
  rw [BitVec.toNat_and, show (BitVec.ofInt 64 (1 : Int)).toNat = 1 from rfl, Nat.and_one_is_mod]
  rw [show BitVec.ofInt 64 (n : Int) = BitVec.ofNat 64 n from BitVec.ofInt_natCast 64 n, BitVec.toNat_ofNat]
  omega
 rw [h1]
 exact zbc (by omega) (by omega)
theorem qln (m i : Nat) : ((m : Int).fdiv ((2 : Int) ^ i)) = ((m >>> i : Nat) : Int) := by
 rw [Nat.shiftRight_eq_div_pow, Int.fdiv_eq_ediv_of_nonneg _ (Int.le_of_lt (Int.pow_pos (by decide)))]
 simp
theorem bit_is (m i : Nat) : ((((m >>> i) % 2 : Nat) : Int) == 1) = m.testBit i := by
 rw [Nat.testBit, Nat.one_and_eq_mod_two, Bool.eq_iff_iff, beq_iff_eq, bne_iff_ne]
 generalize m >>> i = x
 omega
theorem zni (m i : Nat) (hm : m < 4096) (hi : i < 12) : (-9223372036854775808 <= (m : Int).fdiv ((2 : Int) ^ min i 64) /\ (m : Int).fdiv ((2 : Int) ^ min i 64) <= 9223372036854775807) /\ (IntKind.i64.wrap ((BitVec.ofInt 64 ((m : Int).fdiv ((2 : Int) ^ min i 64)) &&& BitVec.ofInt 64 1).toNat : Int) == 1) = m.testBit i := by
 have h64 : min i 64 = i := by omega
 have hle : m >>> i <= m := by rw [Nat.shiftRight_eq_div_pow]; exact Nat.div_le_self _ _
 rw [h64, qln, qkq _ (by omega), bit_is]
 generalize m >>> i = x at hle
 exact ⟨by omega, rfl⟩
theorem zwg (l : List Tm) (hl : l.length <= 12) (m : Nat) (hm : m < 4096) (f : Fm) (hf : f.forms = true) (hp : za3 f = true) (ha : ∀ t ∈ atF f, t ∈ l) (H : ∀ p ∈ f.parts, FC Tryz.prog 135 [fmD p, .one (tmS l), iD m] [bD (evF p (bv m l))]) : FC Tryz.prog 135 [fmD f, .one (tmS l), iD m] [bD (evF f (bv m l))] := by
 rcases ze1 hf with ⟨h1, h2⟩ | ⟨p, rfl, _⟩ | ⟨o, p, q, ho, rfl, _⟩ | ⟨o, v, p, ho, rfl, _⟩
 ·obtain ⟨o, a, v, ps⟩ := f
  simp only [Fm.op, Fm.parts] at h1 h2
  subst h1
  rcases h2 with rfl | rfl | rfl
  ·rw [ze5]
   simp only [fmD, zc2, Fm.op]
   refine zaj Tryz.call135 Tryz.func135 rfl (by kernel_rfl) (zav (by kernel_rfl)) ?_
   simp -implicitDefEqProofs only [go_sem, Tryz.results135]
  ·rw [ze5]
   simp only [fmD, zc2, Fm.op]
   refine zaj Tryz.call135 Tryz.func135 rfl (by kernel_rfl) (zav (by kernel_rfl)) ?_
   simp -implicitDefEqProofs only [go_sem, Tryz.results135]
  ·have hal : a ∈ l := ha a (by rw [zgb]; simp [Fm.op, Fm.atom])
   obtain ⟨hi, _, hx⟩ := zz2 hal
   have HX := zmn l a
   have hv : evF (.mk 3 a v []) (bv m l) = m.testBit (ixT l a) := by rw [ze5]; rfl
   rw [hx] at HX
   rw [hv]
   generalize ixT l a = i at hi HX
   simp only [tmD, zaa a] at HX
   simp only [fmD, zc2, Fm.op]
   refine zaj Tryz.call135 Tryz.func135 rfl (by kernel_rfl) (zav (by kernel_rfl)) ?_
   simp -implicitDefEqProofs only [go_sem, Tryz.results135]
   refine callF (HX) (by simp -implicitDefEqProofs only [go_sem]) ?_
   simp -implicitDefEqProofs only [go_sem]
   exact ⟨(zni m i hm (by omega)).1, congrArg T.bool (zni m i hm (by omega)).2⟩
 ·have HP := H p (by simp [mkF, Fm.parts])
  have hv : evF (mkF 4 [p]) (bv m l) = !(evF p (bv m l)) := by rw [ze5]; rfl
  rw [hv]
  generalize evF p (bv m l) = r at HP ⊢
  simp only [fmD, zac p] at HP
  simp only [fmD]
  rw [show fmC (mkF 4 [p]) = [.int .i64 4, .str [], .sl 2 [], .str [], .sl 5 [fmC p]] from zbw 4 [p], zac p]
  refine zaj Tryz.call135 Tryz.func135 rfl (by kernel_rfl) (zav (by kernel_rfl)) ?_
  simp -implicitDefEqProofs only [go_sem, Tryz.results135]
  refine callF (HP) (by simp -implicitDefEqProofs only [go_sem]) ?_
  simp -implicitDefEqProofs only [go_sem]
 ·have HP := H p (by simp [mkF, Fm.parts])
  have HQ := H q (by simp [mkF, Fm.parts])
  have hv : evF (mkF o [p, q]) (bv m l) = if (o == 5) = true then evF p (bv m l) && evF q (bv m l) else if (o == 6) = true then evF p (bv m l) || evF q (bv m l) else !(evF p (bv m l)) || evF q (bv m l) := by
   rw [ze5]
   rcases ho with rfl | rfl | rfl <;> rfl
  rw [hv]
  generalize evF p (bv m l) = r at HP ⊢
  generalize evF q (bv m l) = r2 at HQ ⊢
  simp only [fmD, zac p, zac q] at HP HQ
  simp only [fmD]
  rw [show fmC (mkF o [p, q]) = [.int .i64 o, .str [], .sl 2 [], .str [], .sl 5 [fmC p, fmC q]] from zbw o [p, q], zac p, zac q]
  rcases ho with rfl | rfl | rfl
  ·cases r
   ·refine zaj Tryz.call135 Tryz.func135 rfl (by kernel_rfl) (zav (by kernel_rfl)) ?_
    simp -implicitDefEqProofs only [go_sem, Tryz.results135]
    refine callF (HP) (by simp -implicitDefEqProofs only [go_sem]) ?_
    simp -implicitDefEqProofs only [go_sem]
   ·refine zaj Tryz.call135 Tryz.func135 rfl (by kernel_rfl) (zav (by kernel_rfl)) ?_
    simp -implicitDefEqProofs only [go_sem, Tryz.results135]
    refine callF (HP) (by simp -implicitDefEqProofs only [go_sem]) ?_
    simp -implicitDefEqProofs only [go_sem]
    refine callF (HQ) (by simp -implicitDefEqProofs only [go_sem]) ?_
    simp -implicitDefEqProofs only [go_sem]
  ·cases r
   ·refine zaj Tryz.call135 Tryz.func135 rfl (by kernel_rfl) (zav (by kernel_rfl)) ?_
    simp -implicitDefEqProofs only [go_sem, Tryz.results135]
    refine callF (HP) (by simp -implicitDefEqProofs only [go_sem]) ?_
    simp -implicitDefEqProofs only [go_sem]
    refine callF (HQ) (by simp -implicitDefEqProofs only [go_sem]) ?_
    simp -implicitDefEqProofs only [go_sem]
    rfl
   ·refine zaj Tryz.call135 Tryz.func135 rfl (by kernel_rfl) (zav (by kernel_rfl)) ?_
    simp -implicitDefEqProofs only [go_sem, Tryz.results135]
    refine callF (HP) (by simp -implicitDefEqProofs only [go_sem]) ?_
    simp -implicitDefEqProofs only [go_sem]
    rfl
  ·cases r
   ·refine zaj Tryz.call135 Tryz.func135 rfl (by kernel_rfl) (zav (by kernel_rfl)) ?_
    simp -implicitDefEqProofs only [go_sem, Tryz.results135]
    refine callF (HP) (by simp -implicitDefEqProofs only [go_sem]) ?_
    simp -implicitDefEqProofs only [go_sem]
    rfl
   ·refine zaj Tryz.call135 Tryz.func135 rfl (by kernel_rfl) (zav (by kernel_rfl)) ?_
    simp -implicitDefEqProofs only [go_sem, Tryz.results135]
    refine callF (HP) (by simp -implicitDefEqProofs only [go_sem]) ?_
    simp -implicitDefEqProofs only [go_sem]
    refine callF (HQ) (by simp -implicitDefEqProofs only [go_sem]) ?_
    simp -implicitDefEqProofs only [go_sem]
    rfl
 ·exfalso
  rw [zcn] at hp
  rcases ho with rfl | rfl <;> simp [Fm.op] at hp
theorem zgg {f : Fm} (hf : f.forms = true) : ∀ p ∈ f.parts, p.forms = true := by
 rw [Fm.forms_eq, Bool.and_eq_true] at hf
 exact List.all_eq_true.1 hf.2
theorem zdz {f : Fm} (hf : za3 f = true) : ∀ p ∈ f.parts, za3 p = true := by
 rw [zcn, Bool.and_eq_true] at hf
 exact List.all_eq_true.1 hf.2
theorem zp2 {f : Fm} (hf : f.forms = true) {p : Fm} (hp : p ∈ f.parts) {t : Tm} (ht : t ∈ atF p) : t ∈ atF f := by
 rw [zgb]
 split
 ·rename_i h3
  have := zww (qkl hf) h3
  rw [List.length_eq_zero_iff.1 this] at hp
  cases hp
 ·exact List.mem_flatten.2 ⟨_, List.mem_map_of_mem hp, ht⟩
theorem zzg (l : List Tm) (hl : l.length <= 12) (m : Nat) (hm : m < 4096) : ∀ f : Fm, f.forms = true -> za3 f = true -> (∀ t ∈ atF f, t ∈ l) -> FC Tryz.prog 135 [fmD f, .one (tmS l), iD m] [bD (evF f (bv m l))] :=
 za7 fun o a v ps ih hf hp ha => zwg l hl m hm (.mk o a v ps) hf hp ha fun p hm => ih p hm (zgg hf p hm) (zdz hp p hm) fun t ht => ha t (zp2 hf hm ht)
theorem zpp (f : Fm) (hw : f.wt <= 1048576) (hf : f.forms = true) (hp : za3 f = true) : FC Tryz.prog 81 [fmD f] [bD (zxt f).1, bD (zxt f).2] := by
 have HD := ziu f hw
 have hall := fun t => qfs (f := f) (t := t)
 have hv : zxt f = if (qip f).length <= 12 then (dec (zqb f), true) else (false, false) := rfl
 rw [hv]
 generalize qip f = L at HD hall ⊢
 have HT := fun (m : Nat) (hm : m < 4096) (hl : L.length <= 12) => zzg L hl m hm f hf hp hall
 have hbits := zo6 hall
 simp only [fmD, zac f] at HD HT ⊢
 by_cases hl : L.length <= 12
 ·have h12 : ((12 : Int) < (L.length : Int)) = False := by simp; omega
  have hle : 2 ^ L.length <= 2 ^ 12 := Nat.pow_le_pow_right (by omega) hl
  have hpow : IntKind.i64.wrap (1 * 2 ^ min L.length 64) = ((2 ^ L.length : Nat) : Int) := by
   rw [show min L.length 64 = L.length by omega, Int.one_mul, show (2 : Int) ^ L.length = ((2 ^ L.length : Nat) : Int) by simp]
   generalize 2 ^ L.length = N at hle ⊢
   exact zbc (by omega) (by omega)
  rw [if_pos hl]
  refine zaj Tryz.call81 Tryz.func81 rfl (by kernel_rfl) (zav (by kernel_rfl)) ?_
  simp -implicitDefEqProofs only [go_sem, Tryz.results81]
  refine callF (HD) (by simp -implicitDefEqProofs only [go_sem]) ?_
  simp -implicitDefEqProofs only [go_sem]
  simp -implicitDefEqProofs only [go_sem, h12, hpow]
  generalize 2 ^ L.length = N at hle hbits ⊢
  refine zad (fun k : Nat => hd [(1, .one (.bx 1 0)), (4, .one (.ow 224 0)), (13, vI N), (14, vI k)] [(1, [.t (.int .i64 f.op), .t (.str f.atom.name), .t (tmS f.atom.args), .t (.str f.var), .t (fmS f.parts)])] [(224, ⟨true, 2, L.map tmC, 0, true⟩)]) (fun k => k <= N /\ ∀ m, m < k -> evF f (bv m L) = true) (fun k => N - k) 0 (zab ?_) ⟨Nat.zero_le _, fun m h => by omega⟩ ?_
  ·simp -implicitDefEqProofs only [go_sem]
  ·intro k ⟨hk, hr⟩
   by_cases hlt : k < N
   ·have HC := HT k (by omega) hl
    simp -implicitDefEqProofs only [go_sem, hlt]
    refine callF (HC) (by simp -implicitDefEqProofs only [go_sem]) ?_
    simp -implicitDefEqProofs only [go_sem]
    refine ⟨fun h => ?_, fun h => ?_⟩
    ·have : dec (zqb f) = false := by
      rw [<- Bool.not_eq_true, zew, <- hbits]
      intro h2
      have h3 : evF f (bv k L) = true := h2 k hlt
      rw [h3] at h
      simp at h
     rw [this]
    ·refine ⟨k + 1, ⟨hlt, fun m hm => ?_⟩, by omega, zab ?_⟩
     ·by_cases e : m = k
      ·subst e; simpa using h
      ·exact hr m (by omega)
     ·simp -implicitDefEqProofs only [go_sem]
      rw [zak (by omega)]
   ·simp -implicitDefEqProofs only [go_sem, hlt]
    have : dec (zqb f) = true := zew.2 (hbits.1 fun m hm => hr m (by omega))
    rw [this]
 ·have h12 : ((12 : Int) < (L.length : Int)) = True := by simp; omega
  rw [if_neg hl]
  refine zaj Tryz.call81 Tryz.func81 rfl (by kernel_rfl) (zav (by kernel_rfl)) ?_
  simp -implicitDefEqProofs only [go_sem, Tryz.results81]
  refine callF (HD) (by simp -implicitDefEqProofs only [go_sem, h12]) ?_
  simp -implicitDefEqProofs only [go_sem, h12]
end Go.Proofs.YtemnhgmgeijkcaaGreat
namespace Go.Proofs.YtemnhgmgeijkcaaGreat
set_option linter.unusedSimpArgs false
set_option linter.unusedVariables false
set_option linter.unusedSectionVars false
set_option maxRecDepth 4000
open Go.RowKit
def pF (ps : List (Str × Tm)) : Fm -> Fm := Fm.fold fun o a v _ rs => if (o == 3) = true then .mk o (zci ps a) v [] else .mk o (.mk [] []) v rs
theorem pF_eq (ps : List (Str × Tm)) (f : Fm) : pF ps f = if (f.op == 3) = true then .mk f.op (zci ps f.atom) f.var [] else .mk f.op (.mk [] []) f.var (f.parts.map (pF ps)) := Fm.fold_eq _ f
theorem qet (ps : List (Str × Tm)) {o : Int} (h : (o == 3) = true) (a : Tm) (v : Str) (xs : List Fm) : pF ps (.mk o a v xs) = .mk o (zci ps a) v [] := by rw [pF_eq]; exact if_pos h
theorem qev (ps : List (Str × Tm)) {o : Int} (h : (o == 3) = false) (a : Tm) (v : Str) (xs : List Fm) : pF ps (.mk o a v xs) = .mk o (.mk [] []) v (xs.map (pF ps)) := by rw [pF_eq]; exact if_neg (by rw [show (Fm.mk o a v xs).op = o from rfl, h]; simp)
theorem qlr {o : Int} (h : (o == 3) = true) (a : Tm) (v : Str) (xs : List Fm) : atF (.mk o a v xs) = [a] := by rw [zgb]; exact if_pos h
theorem qkc {o : Int} (h : (o == 3) = false) (a : Tm) (v : Str) (xs : List Fm) : atF (.mk o a v xs) = (xs.map atF).flatten := by rw [zgb]; exact if_neg (by rw [show (Fm.mk o a v xs).op = o from rfl, h]; simp)
theorem pl_q {f : Fm} (h : za3 f = true) : isQ f.op = false := by
 rw [zcn, Bool.and_eq_true] at h
 unfold isQ
 simpa using h.1
theorem qjt (n : Str) (t : Tm) {o : Int} (h : (o == 3) = true) (a : Tm) (v : Str) (xs : List Fm) : zcz n t (.mk o a v xs) = (.mk o (zci (bnd n t) a) v [], (zci (bnd n t) a).atomOk) := by rw [zsy]; exact if_pos h
theorem qju (n : Str) (t : Tm) {o : Int} (h : (o == 3) = false) (hq : isQ o = false) (a : Tm) (v : Str) (xs : List Fm) : zcz n t (.mk o a v xs) = (.mk o (.mk [] []) v ((xs.takeWhile fun x => (zcz n t x).2).map fun x => (zcz n t x).1), xs.all fun x => (zcz n t x).2) := by
 rw [zsy]
 have e1 : ((Fm.mk o a v xs).op == 3) = false := h
 have e2 : isQ (Fm.mk o a v xs).op = false := hq
 rw [if_neg (by rw [e1]; simp), e2, Bool.false_and, Bool.false_and, if_neg (by simp), if_neg (by simp)]
 rfl
theorem zmg {α β : Type} (f : α -> List β) (p : β -> Bool) : ∀ xs : List α, ((xs.map f).flatten).all p = xs.all fun x => (f x).all p
 | [] => rfl
 | x :: xs => by rw [List.map_cons, List.flatten_cons, List.all_append, zmg f p xs, List.all_cons]
theorem zhy {α : Type} {p q : α -> Bool} : ∀ {xs : List α}, (∀ x ∈ xs, p x = q x) -> xs.all p = xs.all q
 | [], _ => rfl
 | x :: xs, h => by rw [List.all_cons, List.all_cons, h x (by simp), zhy fun y hy => h y (by simp [hy])]
theorem qjb {α : Type} {p : α -> Bool} : ∀ {xs : List α}, (∀ x ∈ xs, p x = true) -> xs.takeWhile p = xs
 | [], _ => rfl
 | x :: xs, h => by rw [List.takeWhile_cons, h x (by simp), if_pos rfl, qjb fun y hy => h y (by simp [hy])]
theorem znp (n : Str) (t : Tm) : ∀ f : Fm, za3 f = true -> (zcz n t f).2 = (atF f).all fun a => (zci (bnd n t) a).atomOk := za7 fun o a v ps ih hp => by
 cases h3 : o == 3
 ·rw [qju n t h3 (pl_q hp), qkc h3, zmg]
  exact zhy fun x hx => ih x hx (zdz hp x hx)
 ·rw [qjt n t h3, qlr h3]
  simp
theorem zs1 (n : Str) (t : Tm) : ∀ f : Fm, za3 f = true -> (zcz n t f).2 = true -> (zcz n t f).1 = pF (bnd n t) f := za7 fun o a v ps ih hp ho => by
 cases h3 : o == 3
 ·rw [qju n t h3 (pl_q hp)] at ho ⊢
  rw [qev _ h3]
  show Fm.mk o (.mk [] []) v _ = _
  have ho : ∀ x ∈ ps, (zcz n t x).2 = true := List.all_eq_true.1 ho
  congr 1
  rw [qjb ho]
  exact List.map_congr_left fun x hx => ih x hx (zdz hp x hx) (ho x hx)
 ·rw [qjt n t h3, qet _ h3]
theorem zze (n : Str) (t : Tm) (ht : voS t = []) (ps : List (Str × Tm)) : ∀ f : Fm, pF ps (pF [(n, t)] f) = pF ((n, t) :: ps) f := za7 fun o a v xs ih => by
 cases h3 : o == 3
 ·rw [qev _ h3, qev _ h3, qev _ h3, List.map_map]
  congr 1
  exact List.map_congr_left fun x hx => ih x hx
 ·rw [qet _ h3, qet _ h3, qet _ h3, zps n t ht]
theorem zfn {o : Int} {a : Tm} {v : Str} {xs : List Fm} (h : (Fm.mk o a v xs).forms = true) : (Fm.mk o a v xs).here = true /\ ∀ x ∈ xs, x.forms = true := by
 rw [Fm.forms_eq, Bool.and_eq_true] at h
 exact ⟨h.1, List.all_eq_true.1 h.2⟩
theorem zjw {o : Int} (h3 : (o == 3) = true) {a : Tm} {v : Str} {xs : List Fm} (h : (Fm.mk o a v xs).here = true) : o = 3 /\ xs = [] /\ v = [] /\ a.atomOk = true := by
 have e : o = 3 := by simpa using h3
 subst e
 rw [zsx] at h
 simp only [show ((3 : Int) == 1 || (3 : Int) == 2) = false from rfl, Bool.false_eq_true, if_false, h3, if_true, Bool.and_eq_true, decide_eq_true_eq, beq_iff_eq] at h
 exact ⟨rfl, List.length_eq_zero_iff.1 h.1.1, h.2, h.1.2⟩
theorem qis (a : Tm) : (Fm.mk 3 a [] []).here = a.atomOk := by
 rw [zsx]
 simp
theorem zi7 (ps : List (Str × Tm)) : ∀ f : Fm, za3 f = true -> za3 (pF ps f) = true := za7 fun o a v xs ih hp => by
 have hq := pl_q hp
 unfold isQ at hq
 have hq : (o == 8 || o == 9) = false := hq
 cases h3 : o == 3
 ·rw [qev _ h3, zcn]
  show (!(o == 8 || o == 9) && (xs.map (pF ps)).all za3) = true
  rw [hq, List.all_map]
  exact List.all_eq_true.2 fun x hx => ih x hx (zdz hp x hx)
 ·rw [qet _ h3, zcn]
  show (!(o == 8 || o == 9) && [].all za3) = true
  rw [hq]; rfl
theorem zi2 (ps : List (Str × Tm)) : ∀ f : Fm, f.forms = true -> (pF ps f).forms = (atF f).all fun a => (zci ps a).atomOk := za7 fun o a v xs ih hf => by
 obtain ⟨hh, hx⟩ := zfn hf
 cases h3 : o == 3
 ·have h3' : ((Fm.mk o a v xs).op == 3) = false := h3
  have ha : a = .mk [] [] := zhf hh h3'
  subst ha
  rw [qev _ h3, qkc h3, zmg, zu9, show (Fm.mk o (.mk [] []) v (xs.map (pF ps))).here = true from qav (f := .mk o (.mk [] []) v xs) hh h3' (by rw [List.length_map]; rfl), Bool.true_and, List.all_map]
  exact zhy fun x hm => ih x hm (hx x hm)
 ·obtain ⟨rfl, rfl, rfl, h4⟩ := zjw h3 hh
  rw [qet _ h3, qlr h3, zu9, qis]
  simp
theorem qgo (ps : List (Str × Tm)) : ∀ f : Fm, f.forms = true -> (pF ps f).nodes = f.nodes := za7 fun o a v xs ih hf => by
 obtain ⟨hh, hx⟩ := zfn hf
 cases h3 : o == 3
 ·rw [qev _ h3, Fm.nodes_eq, Fm.nodes_eq]
  show 1 + ((xs.map (pF ps)).map Fm.nodes).sum = 1 + (xs.map Fm.nodes).sum
  rw [List.map_map, show xs.map (Fm.nodes ∘ pF ps) = xs.map Fm.nodes from List.map_congr_left fun x hm => ih x hm (hx x hm)]
 ·obtain ⟨rfl, rfl, rfl, h4⟩ := zjw h3 hh
  rw [qet _ h3]; rfl
theorem qgs : ∀ a : Tm, a.names = true -> zci [] a = a := zba fun m xs ih h => by
 by_cases hm : zay m = true
 ·rw [zjn hm] at h
  have hx : xs = [] := List.length_eq_zero_iff.1 (of_decide_eq_true h)
  subst hx
  rw [zjs _ hm]; rfl
 ·rw [zhu hm] at h
  simp only [Bool.and_eq_true] at h
  rw [zg8 _ hm]
  congr 1
  conv => rhs; rw [<- List.map_id xs]
  exact List.map_congr_left fun x hx => ih x hx (List.all_eq_true.1 h.2 x hx)
theorem zx9 {a : Tm} (h : nmA a = true) : zci [] a = a := by
 obtain ⟨h3, h4⟩ := zol h
 cases a with
 | mk m xs =>
  have h3 : zay m = false := h3
  have h4 : xs.all Tm.names = true := h4
  rw [zg8 _ (by rw [h3]; simp)]
  congr 1
  conv => rhs; rw [<- List.map_id xs]
  exact List.map_congr_left fun x hx => qgs x (List.all_eq_true.1 h4 x hx)
theorem at_nm : ∀ f : Fm, f.forms = true -> ∀ a ∈ atF f, a.atomOk = true := za7 fun o a v xs ih hf b hb => by
 obtain ⟨hh, hx⟩ := zfn hf
 cases h3 : o == 3
 ·rw [qkc h3] at hb
  obtain ⟨l, hl, hb⟩ := List.mem_flatten.1 hb
  obtain ⟨x, hm, rfl⟩ := List.mem_map.1 hl
  exact ih x hm (hx x hm) b hb
 ·obtain ⟨rfl, rfl, rfl, h4⟩ := zjw h3 hh
  rw [qlr h3, List.mem_singleton] at hb
  rw [hb]; exact h4
theorem zh3 {a : Tm} (h : a.atomOk = true) : nmA a = true := by rw [zft, Bool.and_eq_true] at h; exact h.1
theorem pF_nil : ∀ f : Fm, f.forms = true -> pF [] f = f := za7 fun o a v xs ih hf => by
 obtain ⟨hh, hx⟩ := zfn hf
 cases h3 : o == 3
 ·have h3' : ((Fm.mk o a v xs).op == 3) = false := h3
  have ha : a = .mk [] [] := zhf hh h3'
  subst ha
  rw [qev _ h3]
  congr 1
  conv => rhs; rw [<- List.map_id xs]
  exact List.map_congr_left fun x hm => ih x hm (hx x hm)
 ·obtain ⟨rfl, rfl, rfl, h4⟩ := zjw h3 hh
  rw [qet _ h3, zx9 (zh3 h4)]
theorem inF_is (ps : List (Str × Tm)) (hp : ∀ p ∈ ps, zay p.1 = true) : ∀ f : Fm, f.forms = true -> inF ps f = pF ps f := za7 fun o a v xs ih hf => by
 obtain ⟨hh, hx⟩ := zfn hf
 rw [qjl]
 cases h3 : o == 3
 ·have h3' : ((Fm.mk o a v xs).op == 3) = false := h3
  have ha : a = .mk [] [] := zhf hh h3'
  subst ha
  rw [qev _ h3, h3', if_neg (by simp)]
  show Fm.mk o (.mk [] []) v (xs.map (inF ps)) = _
  congr 1
  exact List.map_congr_left fun x hm => ih x hm (hx x hm)
 ·obtain ⟨rfl, rfl, rfl, h4⟩ := zjw h3 hh
  rw [qet _ h3]
  show Fm.mk 3 (rvT ps a) [] [] = _
  rw [qar ps hp (zh3 h4)]
structure Grd (ps : List (Str × Tm)) : Prop where
 v : ∀ p ∈ ps, zay p.1 = true
 g : ∀ p ∈ ps, p.2.good = true /\ voS p.2 = []
theorem Grd.tail {p : Str × Tm} {ps : List (Str × Tm)} (h : Grd (p :: ps)) : Grd ps := ⟨fun q hq => h.v q (by simp [hq]), fun q hq => h.g q (by simp [hq])⟩
theorem zmv {t : Tm} (h : t.good = true) : t.names = true := by unfold Tm.good at h; rw [Bool.and_eq_true] at h; exact h.2
theorem qjn {n : Str} {t : Tm} (hn : zay n = true) (ht : voS t = []) : bnd n t = [(n, t)] := by
 unfold bnd
 rw [if_neg]
 intro e
 rw [zkb, beq_iff_eq.1 e, if_pos hn] at ht
 cases ht
def zv6 : Fm -> List (Str × Tm) -> Fm × Bool
 | g, [] => (g, true)
 | g, (n, t) :: ps => if (zcz n t g).2 = true then zv6 (zcz n t g).1 ps else ((zcz n t g).1, false)
theorem zv2 : ∀ {ps : List (Str × Tm)} {f : Fm}, Grd ps -> f.forms = true -> za3 f = true -> (zv6 f ps).2 = true -> (zv6 f ps).1 = pF ps f /\ (pF ps f).forms = true
 | [], f, _, hf, _, _ => by rw [pF_nil f hf]; exact ⟨rfl, hf⟩
 | (n, t) :: ps, f, hg, hf, hp, h => by
  have hn := hg.v (n, t) (by simp)
  obtain ⟨ht, hv⟩ := hg.g (n, t) (by simp)
  have hb := qjn hn hv
  unfold zv6 at h ⊢
  split at h
  ·rename_i ho
   rw [if_pos ho]
   have hi := zs1 n t f hp ho
   rw [znp n t f hp, <- zi2 _ f hf, hb] at ho
   rw [hi, hb] at h ⊢
   obtain ⟨h1, h2⟩ := zv2 hg.tail ho (zi7 _ f hp) h
   rw [zze n t hv] at h1 h2
   exact ⟨h1, h2⟩
  ·cases h
theorem qec : ∀ {ps : List (Str × Tm)} {f : Fm}, Grd ps -> f.forms = true -> za3 f = true -> (pF ps f).forms = true -> (zv6 f ps).2 = true
 | [], f, _, _, _, _ => rfl
 | (n, t) :: ps, f, hg, hf, hp, h => by
  have hn := hg.v (n, t) (by simp)
  obtain ⟨ht, hv⟩ := hg.g (n, t) (by simp)
  have hb := qjn hn hv
  have hnm : ∀ p ∈ [(n, t)], p.2.names = true := fun p hp => by rw [List.mem_singleton.1 hp]; exact zmv ht
  have ho : (zcz n t f).2 = true := by
   rw [znp n t f hp, hb]
   rw [zi2 _ f hf] at h
   refine List.all_eq_true.2 fun a ha => ?_
   have h1 := List.all_eq_true.1 h a ha
   rw [<- zps n t hv, zft, Bool.and_eq_true] at h1
   have h2 := qh0 [(n, t)] hnm (zh3 (at_nm f hf a ha))
   rw [zft, h2, Bool.true_and]
   exact zxi ps h2 h1.2
  unfold zv6
  rw [if_pos ho, zs1 n t f hp ho, hb]
  have h1 : (pF [(n, t)] f).forms = true := by rw [znp n t f hp, <- zi2 _ f hf, hb] at ho; exact ho
  exact qec hg.tail h1 (zi7 _ f hp) (by rw [zze n t hv]; exact h)
theorem zuv {ps : List (Str × Tm)} {f : Fm} (hg : Grd ps) (hf : f.forms = true) (hp : za3 f = true) : ((zv6 f ps).2 && (zv6 f ps).1.good) = (pF ps f).good := by
 rw [Bool.eq_iff_iff, Bool.and_eq_true]
 constructor
 ·rintro ⟨h1, h2⟩
  rw [(zv2 hg hf hp h1).1] at h2
  exact h2
 ·intro h
  have h1 := qec hg hf hp (zfh h)
  exact ⟨h1, by rw [(zv2 hg hf hp h1).1]; exact h⟩
theorem znx : ∀ f : Fm, f.forms = true -> f.wt <= 520 * f.nodes := za7 fun o a v xs ih hf => by
 obtain ⟨hh, hx⟩ := zfn hf
 have hw : (Fm.mk o a v xs).wt = a.wt + v.length + xs.length + (xs.map Fm.wt).sum := Fm.wt_eq _
 have hn : (Fm.mk o a v xs).nodes = 1 + (xs.map Fm.nodes).sum := Fm.nodes_eq _
 have hs : (xs.map Fm.wt).sum <= (xs.map fun x => 520 * x.nodes).sum := zly _ _ xs fun x hm => ih x hm (hx x hm)
 have hs2 : (xs.map fun x => 520 * x.nodes).sum = 520 * (xs.map Fm.nodes).sum := by
  clear hs hw hn hx hh hf ih
  induction xs with
  | nil => rfl
  | cons x xs ih2 => rw [List.map_cons, List.sum_cons, ih2, List.map_cons, List.sum_cons]; omega
 rw [hw, hn]
 cases h3 : o == 3
 ·have h3' : ((Fm.mk o a v xs).op == 3) = false := h3
  have ha : a = .mk [] [] := zhf hh h3'
  have haw : a.wt = 0 := by rw [ha]; rfl
  have hl : xs.length <= 2 /\ v.length <= 4 := by
   rcases ze1 hf with ⟨h1, h2⟩ | ⟨p, h1, _⟩ | ⟨o', p, q, _, h1, _⟩ | ⟨o', v', p, ho, h1, _⟩
   ·have h1 : xs = [] := h1
    refine ⟨by rw [h1]; simp, ?_⟩
    have := zvf hh (by rcases h2 with h | h | h <;> (rw [h]; rfl))
    have this : v = [] := this
    rw [this]; simp
   ·cases h1; exact ⟨by simp, by simp⟩
   ·cases h1; exact ⟨by simp, by simp⟩
   ·cases h1
    refine ⟨by simp, ?_⟩
    have := qab hh (by rcases ho with h | h <;> (rw [show (Fm.mk o _ v [p]).op = o from rfl, h]; rfl))
    have this : zay v = true := this
    unfold zay inB at this
    simp only [Bool.and_eq_true, decide_eq_true_eq] at this
    omega
  omega
 ·obtain ⟨rfl, rfl, rfl, h4⟩ := zjw h3 hh
  have := zqi h4
  simp only [List.length_nil, List.map_nil, List.sum_nil]
  omega
theorem zja {f : Fm} (h : f.good = true) : f.wt <= 20800 := by
 have h1 := znx f (zfh h)
 unfold Fm.good at h
 rw [Bool.and_eq_true, decide_eq_true_eq] at h
 omega
end Go.Proofs.YtemnhgmgeijkcaaGreat
namespace Go.Proofs.YtemnhgmgeijkcaaGreat
set_option linter.unusedSimpArgs false
set_option linter.unusedVariables false
set_option linter.unusedSectionVars false
set_option maxRecDepth 4000
open Go.RowKit
def grT (t : Tm) : Bool := t.good && decide (voS t = [])
theorem zq2 (l : List Str) : (zb3 [] l).length = 0 ↔ l = [] := by
 constructor
 ·intro h
  cases l with
  | nil => rfl
  | cons a l =>
   exfalso
   have h1 : ∀ (l ys : List Str), ys ≠ [] -> zb3 ys l ≠ [] := fun l => by
    induction l with
    | nil => exact fun ys h => h
    | cons a l ih =>
     intro ys h
     show zb3 (zk3 ys a) l ≠ []
     refine ih _ ?_
     unfold zk3
     split
     ·exact h
     ·simp
   have : zb3 [] (a :: l) = zb3 (zk3 [] a) l := rfl
   rw [this] at h
   exact h1 l (zk3 [] a) (by unfold zk3; simp) (List.length_eq_zero_iff.1 h)
 ·rintro rfl; rfl
theorem qmy {t : Tm} (h : t.good = true) : voI t = voS t /\ t.ne = true := zmj t (zmv h)
theorem zkq (t : Tm) (hw : t.wt <= 1048576) : FC Tryz.prog 68 [tmD t] [bD (grT t)] := by
 have HI := zgz t (by omega)
 have hv : grT t = (t.good && decide (voS t = [])) := rfl
 rw [hv]
 cases hg : t.good
 ·rw [hg] at HI
  rw [Bool.false_and]
  simp only [tmD, zaa t] at HI ⊢
  refine zb8 Tryz.call68 Tryz.func68 rfl (by kernel_rfl) (zav (by kernel_rfl)) ?_
  simp -implicitDefEqProofs only [go_sem, Tryz.results68]
  refine callF (HI) (by simp -implicitDefEqProofs only [go_sem]) ?_
  simp -implicitDefEqProofs only [go_sem]
 ·rw [hg] at HI
  rw [Bool.true_and]
  obtain ⟨h1, h2⟩ := qmy hg
  have hl := qj6 t
  have HC := zog t h2 (by omega) [] (by simp only [List.length_nil]; omega)
  have hd : (((zb3 [] (voI t)).length : Int) == 0) = decide (voS t = []) := by
   rw [Bool.eq_iff_iff, beq_iff_eq, decide_eq_true_eq, <- h1, <- zq2]
   omega
  rw [show zb9 [] = .sl 1 [] from rfl] at HC
  generalize zb3 [] (voI t) = L at HC hd
  simp only [tmD, zaa t] at HI HC ⊢
  refine zb8 Tryz.call68 Tryz.func68 rfl (by kernel_rfl) (zav (by kernel_rfl)) ?_
  simp -implicitDefEqProofs only [go_sem, Tryz.results68]
  refine callF (HI) (by simp -implicitDefEqProofs only [go_sem]) ?_
  simp -implicitDefEqProofs only [go_sem]
  refine zco [1, 4, 5] [6] [] (HC) (by simp -implicitDefEqProofs only [go_sem, hd]) (by simp -implicitDefEqProofs only [go_sem, hd]) (by simp -implicitDefEqProofs only [go_sem, hd]) (by simp -implicitDefEqProofs only [go_sem, hd]) ?_
  simp -implicitDefEqProofs only [go_sem, hd]
theorem qg3 : ∀ a : Tm, (voS a).length <= 1 + a.wt := zba fun n xs ih => by
 rw [zkb]
 split
 ·simp only [List.length_cons, List.length_nil]; omega
 ·have h1 := zi6 voS (fun x => 1 + x.wt) xs ih
  have h2 := zrf Tm.wt xs
  have h3 : (Tm.mk n xs).wt = n.length + xs.length + (xs.map Tm.wt).sum := Tm.wt_eq _
  simp only [Tm.args]
  omega
theorem zta (t : Tm) (hw : t.wt <= 1048576) : FC Tryz.prog 174 [tmD t] [bD (decide (voS t = []))] := by
 have hn := zf2 t
 have hl := qg3 t
 have HV := zn3 t (by omega) (by omega)
 have hd : (((zbm [] (voS t)).length : Int) == 0) = decide (voS t = []) := by
  rw [Bool.eq_iff_iff, beq_iff_eq, decide_eq_true_eq, <- zq2, <- znc, zfe]
  omega
 generalize zbm [] (voS t) = L at HV hd
 simp only [tmD, zaa t] at HV ⊢
 refine zaj Tryz.call174 Tryz.func174 rfl (by kernel_rfl) (zav (by kernel_rfl)) ?_
 simp -implicitDefEqProofs only [go_sem, Tryz.results174]
 refine callF (HV) (by simp -implicitDefEqProofs only [go_sem, hd]) ?_
 simp -implicitDefEqProofs only [go_sem, hd]
theorem zxw (ts : List Tm) (hw : ze6 ts <= 1048576) (hl : ts.length <= 60) : FC Tryz.prog 112 [.one (tmS ts)] [bD (ts.all grT)] := by
 have h60 : decide ((ts.length : Int) <= 60) = true := by simp; omega
 refine zaj Tryz.call112 Tryz.func112 rfl (by kernel_rfl) (zav (by kernel_rfl)) ?_
 simp -implicitDefEqProofs only [go_sem, Tryz.results112]
 refine zad (fun k : Nat => hd [(0, vT (tmS ts)), (3, vI k)] [] []) (fun k => k <= ts.length /\ (ts.take k).all grT = true) (fun k => ts.length - k) 0 (zab ?_) ⟨Nat.zero_le _, rfl⟩ ?_
 ·simp -implicitDefEqProofs only [go_sem]
 ·intro k ⟨hk, hT⟩
  have hk60 : ((k : Int) <= 60) = True := by simp; omega
  by_cases hlt : k < ts.length
  ·have htw := zbk Tm.wt ts ts[k] (List.getElem_mem hlt)
   have hW : ze6 ts = ts.length + (ts.map Tm.wt).sum := rfl
   have HG := ztl ts[k] (by omega)
   have HR := zta ts[k] (by omega)
   have hv : grT ts[k] = (ts[k].good && decide (voS ts[k] = [])) := rfl
   simp only [tmD, zaa ts[k]] at HG HR
   have hbad : grT ts[k] = false -> ts.all grT = false := fun h => List.all_eq_false.2 ⟨_, List.getElem_mem hlt, by rw [h]; simp⟩
   have hnx : grT ts[k] = true -> (ts.take (k + 1)).all grT = true := fun h => by
    rw [List.take_succ_eq_append_getElem hlt, List.all_append, hT]; simp [h]
   cases h1 : ts[k].good
   ·rw [h1] at HG
    rw [h1, Bool.false_and] at hv
    rw [hbad hv]
    simp -implicitDefEqProofs only [go_sem, hlt, hk60, zai, zaa ts[k]]
    refine callF (HG) (by simp -implicitDefEqProofs only [go_sem]) ?_
    simp -implicitDefEqProofs only [go_sem]
   ·rw [h1] at HG
    rw [h1, Bool.true_and] at hv
    simp -implicitDefEqProofs only [go_sem, hlt, hk60, zai, zaa ts[k]]
    refine callF (HG) (by simp -implicitDefEqProofs only [go_sem]) ?_
    simp -implicitDefEqProofs only [go_sem]
    simp -implicitDefEqProofs only [go_sem, hlt, zai, zaa ts[k]]
    refine callF (HR) (by simp -implicitDefEqProofs only [go_sem]) ?_
    simp -implicitDefEqProofs only [go_sem]
    refine ⟨fun h => ?_, fun h => ?_⟩
    ·rw [hbad (by rw [hv]; simpa using h)]
    ·refine ⟨k + 1, ⟨hlt, hnx (by rw [hv]; simpa using h)⟩, by omega, zab ?_⟩
     simp -implicitDefEqProofs only [go_sem]
     rw [zak (by omega)]
  ·rw [List.take_of_length_le (by omega)] at hT
   rw [hT]
   simp -implicitDefEqProofs only [go_sem, hlt, h60]
theorem zg6 : ∀ f : Fm, (exN f).2.nodes <= f.nodes /\ ∀ n ∈ (exN f).1, f.forms = true -> zay n = true := za7 fun o a v ps ih => by
 cases h9 : (Fm.mk o a v ps).op == 9
 ·rw [qct h9]
  exact ⟨Nat.le_refl _, fun n hn => by cases hn⟩
 ·by_cases hl : 0 < ps.length
  ·have e : exN (.mk o a v ps) = ((Fm.mk o a v ps).var :: (exN ps[0]).1, (exN ps[0]).2) := by
    rw [exN, dif_pos ⟨by simpa using h9, hl⟩]; rfl
   rw [e]
   have hm : ps[0] ∈ ps := List.getElem_mem hl
   have h1 := (ih ps[0] hm).1
   have h2 := zek (f := .mk o a v ps) hm
   refine ⟨by show (exN ps[0]).2.nodes <= _; omega, fun n hn hf => ?_⟩
   obtain ⟨hh, hx⟩ := zfn hf
   rcases List.mem_cons.1 hn with rfl | hn
   ·exact qab hh (by unfold isQ; rw [h9, Bool.or_true])
   ·exact (ih ps[0] hm).2 n hn (hx _ hm)
  ·have e : exN (.mk o a v ps) = ([], .mk o a v ps) := by
    rw [exN, dif_neg]
    rintro ⟨_, h⟩
    exact hl h
   rw [e]
   exact ⟨Nat.le_refl _, fun n hn => by cases hn⟩
theorem pF_wt (ps : List (Str × Tm)) (W : Nat) (hW : ∀ p ∈ ps, p.2.wt <= W) : ∀ f : Fm, f.forms = true -> (pF ps f).wt <= (520 + 30 * W) * f.nodes := za7 fun o a v xs ih hf => by
 obtain ⟨hh, hx⟩ := zfn hf
 have hn : (Fm.mk o a v xs).nodes = 1 + (xs.map Fm.nodes).sum := Fm.nodes_eq _
 have hs : (xs.map fun x => (pF ps x).wt).sum <= (xs.map fun x => (520 + 30 * W) * x.nodes).sum := zly _ _ xs fun x hm => ih x hm (hx x hm)
 have hs2 : (xs.map fun x => (520 + 30 * W) * x.nodes).sum = (520 + 30 * W) * (xs.map Fm.nodes).sum := by
  generalize 520 + 30 * W = K
  clear hs hn hx hh hf ih
  induction xs with
  | nil => rfl
  | cons x xs ih2 => rw [List.map_cons, List.sum_cons, ih2, List.map_cons, List.sum_cons, Nat.mul_add]
 rw [hn, Nat.mul_add, Nat.mul_one]
 cases h3 : o == 3
 ·have hw0 := znx _ hf
  rw [qev _ h3]
  have hw : (Fm.mk o (.mk [] []) v (xs.map (pF ps))).wt = 0 + v.length + (xs.map (pF ps)).length + ((xs.map (pF ps)).map Fm.wt).sum := Fm.wt_eq _
  have hl : xs.length <= 2 /\ v.length <= 4 := by
   rcases ze1 hf with ⟨h1, h2⟩ | ⟨p, h1, _⟩ | ⟨o', p, q, _, h1, _⟩ | ⟨o', v', p, ho, h1, _⟩
   ·have h1 : xs = [] := h1
    refine ⟨by rw [h1]; simp, ?_⟩
    have := zvf hh (by rcases h2 with h | h | h <;> (rw [h]; rfl))
    have this : v = [] := this
    rw [this]; simp
   ·cases h1; exact ⟨by simp, by simp⟩
   ·cases h1; exact ⟨by simp, by simp⟩
   ·cases h1
    refine ⟨by simp, ?_⟩
    have := qab hh (by rcases ho with h | h <;> (rw [show (Fm.mk o _ v [p]).op = o from rfl, h]; rfl))
    have this : zay v = true := this
    unfold zay inB at this
    simp only [Bool.and_eq_true, decide_eq_true_eq] at this
    omega
  have e2 : ((xs.map (pF ps)).map Fm.wt).sum = (xs.map fun x => (pF ps x).wt).sum := by rw [List.map_map]; rfl
  rw [hw, List.length_map, e2]
  omega
 ·obtain ⟨rfl, rfl, rfl, h4⟩ := zjw h3 hh
  rw [qet _ h3]
  have hw : (Fm.mk 3 (zci ps a) [] []).wt = (zci ps a).wt + 0 + 0 + 0 := Fm.wt_eq _
  have h5 := qep ps W hW a
  have h6 := zqi h4
  have h7 : a.nodes <= 30 := by
   rw [zft, Bool.and_eq_true] at h4
   have h8 := h4.2
   unfold zcx at h8
   simp only [Bool.and_eq_true, decide_eq_true_eq] at h8
   exact h8.1
  have h8 : a.nodes * W <= 30 * W := Nat.mul_le_mul_right W h7
  rw [hw]
  omega
theorem zna {t : Tm} (h : t.good = true) : t.wt <= 240 := by
 have h1 := zt4 t (zmv h)
 unfold Tm.good zcx at h
 simp only [Bool.and_eq_true, decide_eq_true_eq] at h
 omega
theorem zru {ns : List Str} {ts : List Tm} (hv : ∀ n ∈ ns, zay n = true) (ht : ts.all grT = true) : Grd (ns.zip ts) := by
 refine ⟨fun p hp => hv _ (List.of_mem_zip hp).1, fun p hp => ?_⟩
 have := List.all_eq_true.1 ht _ (List.of_mem_zip hp).2
 unfold grT at this
 rw [Bool.and_eq_true, decide_eq_true_eq] at this
 exact this
theorem qk3 {ps : List (Str × Tm)} (h : Grd ps) {g : Fm} (hf : g.forms = true) (hn : g.nodes <= 40) : (pF ps g).wt <= 308800 := by
 have h1 := pF_wt ps 240 (fun p hp => zna (h.g p hp).1) g hf
 have h2 : (520 + 30 * 240) * g.nodes <= (520 + 30 * 240) * 40 := Nat.mul_le_mul_left _ hn
 omega
end Go.Proofs.YtemnhgmgeijkcaaGreat
namespace Go.Proofs.YtemnhgmgeijkcaaGreat
set_option linter.unusedSimpArgs false
set_option linter.unusedVariables false
set_option linter.unusedSectionVars false
set_option maxRecDepth 4000
open Go.RowKit
def okT (n : Nat) (ts : List Tm) : Bool := decide (ts.length = n) && ts.all grT
def ziq (tss : List (List Tm)) : Nat := tss.length + (tss.map ze6).sum
def qb4 (f : Fm) (ts : List Tm) : Fm := pF ((exN f).1.zip ts) (exN f).2
def zkn (f : Fm) (tss : List (List Tm)) : Fm := zc4 6 (tss.map (qb4 f)) (mkF 2 [])
noncomputable def qeu (f : Fm) (tss : List (List Tm)) : Bool := qe9 f && tss.all (okT (exN f).1.length)
noncomputable def hdB (f : Fm) (tss : List (List Tm)) : Bool := qeu f tss && (zkn f tss).good
noncomputable def hdR (f : Fm) (tss : List (List Tm)) : Fm := if hdB f tss = true then zkn f tss else mkF 0 []
theorem zhl {f : Fm} (h : qe9 f = true) : f.good = true /\ (exN f).1.Nodup /\ za3 (exN f).2 = true /\ (exN f).2.forms = true := by
 unfold qe9 at h
 simp only [Bool.and_eq_true, decide_eq_true_eq] at h
 exact ⟨h.1.1.1, h.1.2, h.2, qbr f (zfh h.1.1.1)⟩
theorem zs2 (t : Tm) (hw : t.wt <= 1048576) : FC Tryz.prog 67 [tmD t] [bD (!grT t)] := by
 have H := zkq t hw
 simp only [tmD, zaa t] at H ⊢
 refine zaj Tryz.call67 Tryz.func67 rfl (by kernel_rfl) (zav (by kernel_rfl)) ?_
 simp -implicitDefEqProofs only [go_sem, Tryz.results67]
 refine callF (H) (by simp -implicitDefEqProofs only [go_sem]) ?_
 simp -implicitDefEqProofs only [go_sem]
set_option maxHeartbeats 4000000 in
theorem qgg (f : Fm) (hw : f.wt <= 1048576) (tss : List (List Tm)) (ht : ziq tss <= 1048576) : FC Tryz.prog 17 [fmD f, .one (ze4 tss)] [fmD (hdR f tss), bD (hdB f tss)] := by
 have HH := zq0 f hw
 cases hh : qe9 f
 ·have e1 : hdB f tss = false := by unfold hdB qeu; rw [hh]; rfl
  unfold hdR
  rw [e1, if_neg (by simp)]
  rw [hh] at HH
  simp only [fmD, zac f, zbw, List.map_nil] at HH ⊢
  refine zb8 Tryz.call17 Tryz.func17 rfl (by kernel_rfl) (zav (by kernel_rfl)) ?_
  simp -implicitDefEqProofs only [go_sem, Tryz.results17]
  refine callF (HH) (by simp -implicitDefEqProofs only [go_sem]) ?_
  simp -implicitDefEqProofs only [go_sem]
 ·rw [hh] at HH
  obtain ⟨hg, hnd, hpl, hfo⟩ := zhl hh
  have HP := ztq f (zfh hg) hw
  have hbw := Nat.le_trans (qaz f) (zja hg)
  have hfn : f.nodes <= 40 := by unfold Fm.good at hg; rw [Bool.and_eq_true, decide_eq_true_eq] at hg; exact hg.1
  have hvn : ∀ n ∈ (exN f).1, zay n = true := fun n hn => (zg6 f).2 n hn (zfh hg)
  have hgn := Nat.le_trans (zg6 f).1 hfn
  have hlen := zfs f
  have hHG : zkn f tss = zc4 6 (tss.map (qb4 f)) (mkF 2 []) := rfl
  have hBv : hdB f tss = (qeu f tss && (zkn f tss).good) := rfl
  have hRv : hdR f tss = if hdB f tss = true then zkn f tss else mkF 0 [] := rfl
  have hvO : qeu f tss = tss.all (okT (exN f).1.length) := by unfold qeu; rw [hh, Bool.true_and]
  rw [show tss.map (qb4 f) = tss.map fun ts => pF ((exN f).1.zip ts) (exN f).2 from rfl] at hHG
  generalize exN f = B at HP hnd hpl hfo hbw hvO hvn hgn hlen hHG
  obtain ⟨ns, g⟩ := B
  simp only at HP hnd hpl hfo hbw hvO hvn hgn hlen hHG
  have hTL : ziq tss = tss.length + (tss.map ze6).sum := rfl
  simp only [fmD, zac f, zac g] at HH HP ⊢
  refine qbb Tryz.call17 Tryz.func17 rfl (zav (by kernel_rfl)) ?_
  refine zbt.cut 3 rfl (by kernel_rfl) ?_
  simp -implicitDefEqProofs only [go_sem, Tryz.results17]
  refine callF (HH) (by simp -implicitDefEqProofs only [go_sem]) ?_
  simp -implicitDefEqProofs only [go_sem]
  refine zu0 [1, 2, 4, 5] [19] [] (HP) (by simp -implicitDefEqProofs only [go_sem]) (by simp -implicitDefEqProofs only [go_sem]) (by simp -implicitDefEqProofs only [go_sem]) (by simp -implicitDefEqProofs only [go_sem]) ?_
  simp -implicitDefEqProofs only [go_sem]
  refine za2 (by simp -implicitDefEqProofs only [go_sem]) ?_
  simp -implicitDefEqProofs only [go_sem]
  refine zbt.seq ?_
  refine zbt.cut 0 rfl (by kernel_rfl) ?_
  simp -implicitDefEqProofs only [go_sem]
  refine zbt.block ?_
  refine zbt.loop (fun k : Nat => hd [(4, .one (.bx 4 0)), (5, vB false), (6, .one (.ow 640 0)), (7, .one (.bx 7 0)), (8, .one (.ow 736 0)), (24, .one (.rn (ze4 tss))), (25, vI tss.length), (26, vI k)] [(4, [.t (.int .i64 0), .t (.str []), .nl 2, .t (.str []), .nl 5]), (7, [.t (.int .i64 g.op), .t (.str g.atom.name), .rn (tmS g.atom.args), .t (.str g.var), .rn (fmS g.parts)])] [(640, ⟨true, 1, ns.map fun s => [.str s], 0, true⟩), (736, ⟨true, 5, (tss.take k).map fun ts => fmC (pF (ns.zip ts) g), 0, true⟩)]) (fun k => k <= tss.length /\ (tss.take k).all (okT ns.length) = true) (fun k => tss.length - k) 0 (zab ?_) ⟨Nat.zero_le _, rfl⟩ ?_
  ·simp -implicitDefEqProofs only [go_sem]
  ·intro k ⟨hk, hT⟩
   refine zbt.cut 1 rfl (by kernel_rfl) ?_
   by_cases hlt : k < tss.length
   ·simp -implicitDefEqProofs only [go_sem, hlt]
    refine zbt.seq ?_
    refine zbt.block ?_
    refine zbt.cut 0 rfl (by kernel_rfl) ?_
    simp -implicitDefEqProofs only [go_sem, zai, hlt]
    have hmw := zbk ze6 tss tss[k] (List.getElem_mem hlt)
    have hbad : okT ns.length tss[k] = false -> hdB f tss = false := fun h => by
     rw [hBv, hvO, List.all_eq_false.2 ⟨_, List.getElem_mem hlt, by rw [h]; simp⟩]; rfl
    have hnx : okT ns.length tss[k] = true -> (tss.take (k + 1)).all (okT ns.length) = true := fun h => by
     rw [List.take_succ_eq_append_getElem hlt, List.all_append, hT]; simp [h]
    have htk : tss.take (k + 1) = tss.take k ++ [tss[k]] := by rw [List.take_succ_eq_append_getElem hlt]
    generalize tss[k] = ts at hmw hbad hnx htk ⊢
    have hF := zc0 ts (fun t => !grT t) 67 [] fun x hx => zs2 x (by
     have h1 := zbk Tm.wt ts x hx
     have h2 : ze6 ts = ts.length + (ts.map Tm.wt).sum := rfl
     omega)
    have hov : okT ns.length ts = (decide (ts.length = ns.length) && ts.all grT) := rfl
    rw [<- zdd ts grT] at hov
    generalize han : (ts.any fun t => !grT t) = an at hF hov
    by_cases hl : ts.length = ns.length
    ·have hl0 : ((ts.length : Int) != (ns.length : Int)) = false := by simp [hl]
     rw [decide_eq_true hl, Bool.true_and] at hov
     cases an
     ·have hok := hnx hov
      refine zbt.cut 0 rfl (by kernel_rfl) ?_
      simp -implicitDefEqProofs only [go_sem, hl0]
      refine callF (hF) (by simp -implicitDefEqProofs only [go_sem]) ?_
      simp -implicitDefEqProofs only [go_sem]
      refine zbt.scope true rfl rfl rfl (by simp only [Tryz.ntmps17]; omega) ?_
      intro b
      refine zfb.cut 0 rfl (by kernel_rfl) ?_
      simp -implicitDefEqProofs only [go_sem]
      refine zfb.block ?_
      refine zfb.loop (fun j : Nat => hd [(4, .one (.bx 4 0)), (5, vB false), (6, .one (.ow 640 0)), (7, .one (.bx 7 0)), (8, .one (.ow 736 0)), (10, .one (.rn (tmS ts))), (11, .one (.cv (.map (some b)))), (24, .one (.rn (ze4 tss))), (25, vI tss.length), (26, vI k), (41, .one (.ow 640 0)), (42, vI ns.length), (43, vI j)] [(4, [.t (.int .i64 0), .t (.str []), .nl 2, .t (.str []), .nl 5]), (7, [.t (.int .i64 g.op), .t (.str g.atom.name), .rn (tmS g.atom.args), .t (.str g.var), .rn (fmS g.parts)])] [(640, ⟨true, 1, ns.map fun s => [.str s], 0, true⟩), (736, ⟨true, 5, (tss.take k).map fun ts => fmC (pF (ns.zip ts) g), 0, true⟩)])
       (fun j => ((ns.zip ts).take j).map bnC) (fun j => j <= ns.length) (fun j => ns.length - j) 0 (zab ?_) rfl (Nat.zero_le _) ?_
      ·simp -implicitDefEqProofs only [go_sem]
      ·intro j hj
       refine zfb.cut 1 rfl (by kernel_rfl) ?_
       by_cases hlj : j < ns.length
       ·have hlj2 : j < ts.length := by omega
        have hzl : j < (ns.zip ts).length := by rw [List.length_zip]; omega
        have hfr : zd0 (.str ns[j]) (((ns.zip ts).take j).map bnC) = some none := by
         rw [zhs, List.find?_eq_none.2]
         ·rfl
         ·intro p hp e
          obtain ⟨i, hi, rfl⟩ := List.getElem_of_mem hp
          rw [List.length_take] at hi
          rw [List.getElem_take, List.getElem_zip, beq_iff_eq] at e
          have := zzd hnd (by omega) hlj e
          omega
        have hrow : ((ns.zip ts).take (j + 1)).map bnC = ((ns.zip ts).take j).map bnC ++ [[.str ns[j], .str ts[j].name, .sl 2 (ts[j].args.map tmC)]] := by
         rw [List.take_succ_eq_append_getElem hzl, List.map_append, List.map_singleton, List.getElem_zip, zt6]
        generalize ((ns.zip ts).take j).map bnC = R at hfr hrow ⊢
        simp -implicitDefEqProofs only [go_sem, hlj]
        refine zfb.seq ?_
        refine zfb.block ?_
        refine zfb.cut 0 rfl (by kernel_rfl) ?_
        simp -implicitDefEqProofs only [go_sem, zai, hlj]
        refine zfb.upd 6 rfl rfl rfl (by kernel_rfl) ?_
        simp -implicitDefEqProofs only [go_sem, zai, hlj, hlj2, zaa ts[j], hfr, Tryz.underlying105, Tryz.underlying9]
        refine zfb.ofEx (by kernel_rfl) ?_
        simp -implicitDefEqProofs only [go_sem]
        refine ⟨j + 1, hlj, by omega, hrow, zab ?_⟩
        simp -implicitDefEqProofs only [go_sem]
        rw [zak (by omega)]
       ·have htz : (ns.zip ts).take j = ns.zip ts := List.take_of_length_le (by rw [List.length_zip]; omega)
        have hgr := zru hvn (by rw [<- zdd, han]; rfl : ts.all grT = true)
        have HI := zx6 (ns.zip ts) (fun p hp => by have := zna (hgr.g p hp).1; omega) g (by omega)
        rw [inF_is _ hgr.v g hfo] at HI
        have ha : k <= 4294967295 := by omega
        have ha2 : min k tss.length <= 4294967295 := by omega
        unfold mpS at HI
        simp -implicitDefEqProofs only [go_sem, hlj, htz]
        refine zbt.ofEx (by kernel_rfl) ?_
        generalize hr : pF (ns.zip ts) g = r at HI ⊢
        simp only [fmD, zac g, zac r] at HI
        simp -implicitDefEqProofs only [go_sem]
        refine callF (HI) (by simp -implicitDefEqProofs only [go_sem]) ?_
        simp -implicitDefEqProofs only [go_sem]
        refine za2 (by simp -implicitDefEqProofs only [go_sem]) ?_
        simp -implicitDefEqProofs only [go_sem]
        refine apD true (by simp -implicitDefEqProofs only [go_sem, ne_eq, List.length_map, List.length_take, ha, ha2]) ?_
        simp -implicitDefEqProofs only [go_sem, ne_eq, List.length_map, List.length_take, ha, ha2]
        refine zbt.ofEx (by kernel_rfl) ?_
        simp -implicitDefEqProofs only [go_sem]
        refine ⟨k + 1, ⟨hlt, hok⟩, by omega, zab ?_⟩
        simp -implicitDefEqProofs only [go_sem]
        rw [zak (by omega), htk, List.map_append, List.map_singleton, hr, zac r]
        exact ⟨rfl, rfl⟩
     ·have hB := hbad hov
      rw [hRv, hB, if_neg (by simp)]
      simp only [zbw, List.map_nil]
      refine zbt.cut 0 rfl (by kernel_rfl) ?_
      simp -implicitDefEqProofs only [go_sem, hl0]
      refine callF (hF) (by simp -implicitDefEqProofs only [go_sem]) ?_
      simp -implicitDefEqProofs only [go_sem]
    ·have hl0 : ((ts.length : Int) != (ns.length : Int)) = true := by rw [bne_iff_ne]; omega
     rw [decide_eq_false hl, Bool.false_and] at hov
     have hB := hbad hov
     rw [hRv, hB, if_neg (by simp)]
     simp only [zbw, List.map_nil]
     refine zbt.cut 0 rfl (by kernel_rfl) ?_
     simp -implicitDefEqProofs only [go_sem, hl0]
   ·rw [List.take_of_length_le (by omega)] at hT
    rw [hvO, hT, Bool.true_and] at hBv
    have ht : tss.take k = tss := List.take_of_length_le (by omega)
    have hall : ∀ x ∈ tss.map (fun ts => pF (ns.zip ts) g), x.wt <= 308800 := fun x hx => by
     obtain ⟨ts, hm, rfl⟩ := List.mem_map.1 hx
     have h1 := List.all_eq_true.1 hT ts hm
     unfold okT at h1
     rw [Bool.and_eq_true] at h1
     exact qk3 (zru hvn h1.2) hfo hgn
    have hsum : ∀ l : List Fm, (∀ x ∈ l, x.wt <= 308800) -> (l.map Fm.wt).sum <= 308800 * l.length := fun l => by
     induction l with
     | nil => intro _; simp
     | cons x l ih =>
      intro h
      have := ih fun y hy => h y (by simp [hy])
      have := h x (by simp)
      rw [List.map_cons, List.sum_cons, List.length_cons]; omega
    have hs := hsum _ hall
    have hj := zrt 6 (mkF 2 []) (tss.map fun ts => pF (ns.zip ts) g)
    rw [List.length_map] at hs hj
    have h2 : (mkF 2 []).wt = 0 := rfl
    have HL := zw6 6 (tss.map fun ts => pF (ns.zip ts) g) (mkF 2 [])
    rw [<- hHG] at HL hj
    have HI := zrl (zkn f tss) (by omega)
    rw [hRv, hBv]
    generalize zkn f tss = G at HL HI
    generalize G.good = gd at HI
    generalize hC : (if gd = true then G else mkF 0 []) = C at HI ⊢
    simp only [fmD, zbw, List.map_nil, List.map_cons, zac G, zac C, fmS, List.map_map, Function.comp_def] at HL HI ⊢
    simp -implicitDefEqProofs only [go_sem, hlt, ht]
    refine zbt.ofEx (by kernel_rfl) ?_
    simp -implicitDefEqProofs only [go_sem]
    refine zco [4, 5] [62, 63] [] (HL) (by simp -implicitDefEqProofs only [go_sem]) (by simp -implicitDefEqProofs only [go_sem]) (by simp -implicitDefEqProofs only [go_sem]) (by simp -implicitDefEqProofs only [go_sem]) ?_
    simp -implicitDefEqProofs only [go_sem]
    refine zco [4, 5] [64] [] (HI) (by simp -implicitDefEqProofs only [go_sem]) (by simp -implicitDefEqProofs only [go_sem]) (by simp -implicitDefEqProofs only [go_sem]) (by simp -implicitDefEqProofs only [go_sem]) ?_
    simp -implicitDefEqProofs only [go_sem]
end Go.Proofs.YtemnhgmgeijkcaaGreat
namespace Go.Proofs.YtemnhgmgeijkcaaGreat
set_option linter.unusedSimpArgs false
set_option linter.unusedVariables false
set_option linter.unusedSectionVars false
set_option maxRecDepth 4000
open Go.RowKit
theorem zq9 (op : Int) (ho : op = 5 \/ op = 6 \/ op = 7) (z : Fm) : ∀ {xs : List Fm}, (zc4 op xs z).good = true -> ∀ x ∈ xs, x.good = true
 | [], _, x, hx => by cases hx
 | [a], h, x, hx => by rw [List.mem_singleton.1 hx]; exact h
 | a :: b :: xs, h, x, hx => by
  rw [zd9 op a (by simp) z] at h
  have h2 := h
  unfold Fm.good at h2
  rw [Bool.and_eq_true, decide_eq_true_eq] at h2
  obtain ⟨hn, hf⟩ := h2
  have hn2 : (mkF op [a, zc4 op (b :: xs) z]).nodes = 1 + (a.nodes + ((zc4 op (b :: xs) z).nodes + 0)) := Fm.nodes_eq _
  have hp := zgg hf
  have ha : a.good = true := by
   unfold Fm.good
   rw [hp a (by simp [qjh]), Bool.and_true, decide_eq_true_eq]; omega
  have hj : (zc4 op (b :: xs) z).good = true := by
   unfold Fm.good
   rw [hp _ (by simp [qjh]), Bool.and_true, decide_eq_true_eq]; omega
  rcases List.mem_cons.1 hx with rfl | hx
  ·exact ha
  ·exact zq9 op ho z hj x hx
theorem qfc {g : Fm} {n : Str} {t : Tm} {ps : List (Str × Tm)} : zv6 g ((n, t) :: ps) = if (zcz n t g).2 = true then zv6 (zcz n t g).1 ps else ((zcz n t g).1, false) := rfl
theorem zo5 {f : Fm} (h : f.forms = true) (hn : f.nodes <= 40) : f.wt <= 20800 := by
 have := znx f h
 omega
set_option maxHeartbeats 4000000 in
theorem ziv (f : Fm) (hw : f.wt <= 1048576) (tss : List (List Tm)) (ht : ziq tss <= 1048576) : FC Tryz.prog 60 [fmD f, .one (ze4 tss)] [fmD (hdR f tss), bD (hdB f tss)] := by
 have HH := zpx f hw
 cases hh : qe9 f
 ·have e1 : hdB f tss = false := by unfold hdB qeu; rw [hh]; rfl
  unfold hdR
  rw [e1, if_neg (by simp)]
  rw [hh] at HH
  simp only [fmD, zac f, zbw, List.map_nil] at HH ⊢
  refine zb8 Tryz.call60 Tryz.func60 rfl (by kernel_rfl) (zav (by kernel_rfl)) ?_
  simp -implicitDefEqProofs only [go_sem, Tryz.results60]
  refine callF (HH) (by simp -implicitDefEqProofs only [go_sem]) ?_
  simp -implicitDefEqProofs only [go_sem]
 ·rw [hh] at HH
  obtain ⟨hg, hnd, hpl, hfo⟩ := zhl hh
  have HP := zqn f (zfh hg) hw
  have hbw := Nat.le_trans (qaz f) (zja hg)
  have hfn : f.nodes <= 40 := by unfold Fm.good at hg; rw [Bool.and_eq_true, decide_eq_true_eq] at hg; exact hg.1
  have hvn : ∀ n ∈ (exN f).1, zay n = true := fun n hn => (zg6 f).2 n hn (zfh hg)
  have hgn := Nat.le_trans (zg6 f).1 hfn
  have hlen := zfs f
  have hHG : zkn f tss = zc4 6 (tss.map (qb4 f)) (mkF 2 []) := rfl
  have hBv : hdB f tss = (qeu f tss && (zkn f tss).good) := rfl
  have hRv : hdR f tss = if hdB f tss = true then zkn f tss else mkF 0 [] := rfl
  have hvO : qeu f tss = tss.all (okT (exN f).1.length) := by unfold qeu; rw [hh, Bool.true_and]
  rw [show tss.map (qb4 f) = tss.map fun ts => pF ((exN f).1.zip ts) (exN f).2 from rfl] at hHG
  generalize exN f = B at HP hnd hpl hfo hbw hvO hvn hgn hlen hHG
  obtain ⟨ns, g⟩ := B
  simp only at HP hnd hpl hfo hbw hvO hvn hgn hlen hHG
  have hTL : ziq tss = tss.length + (tss.map ze6).sum := rfl
  simp only [fmD, zac f, zac g] at HH HP ⊢
  refine zb8 Tryz.call60 Tryz.func60 rfl (by kernel_rfl) (zav (by kernel_rfl)) ?_
  simp -implicitDefEqProofs only [go_sem, Tryz.results60]
  refine callF (HH) (by simp -implicitDefEqProofs only [go_sem]) ?_
  simp -implicitDefEqProofs only [go_sem]
  refine zu0 [1, 2, 4, 5] [19] [] (HP) (by simp -implicitDefEqProofs only [go_sem]) (by simp -implicitDefEqProofs only [go_sem]) (by simp -implicitDefEqProofs only [go_sem]) (by simp -implicitDefEqProofs only [go_sem]) ?_
  simp -implicitDefEqProofs only [go_sem]
  refine zep (by simp -implicitDefEqProofs only [go_sem]) ?_
  simp -implicitDefEqProofs only [go_sem]
  refine zad (fun k : Nat => hd [(1, .one (.rn (ze4 tss))), (4, .one (.bx 4 0)), (5, vB false), (6, .one (.ow 640 0)), (7, .one (.bx 7 0)), (8, .one (.ow 736 0)), (9, vI k)] [(4, [.t (.int .i64 0), .t (.str []), .nl 2, .t (.str []), .nl 5]), (7, [.t (.int .i64 g.op), .t (.str g.atom.name), .rn (tmS g.atom.args), .t (.str g.var), .rn (fmS g.parts)])] [(640, ⟨true, 1, ns.map fun s => [.str s], 0, true⟩), (736, ⟨false, 5, (tss.take k).map fun ts => fmC (pF (ns.zip ts) g), 0, true⟩)]) (fun k => k <= tss.length /\ (tss.take k).all (okT ns.length) = true /\ ∀ ts ∈ tss.take k, (pF (ns.zip ts) g).good = true) (fun k => tss.length - k) 0 (zab ?_) ⟨Nat.zero_le _, rfl, by simp⟩ ?_
  ·simp -implicitDefEqProofs only [go_sem]
  ·intro k ⟨hk, hT, hG⟩
   by_cases hlt : k < tss.length
   ·have hmw := zbk ze6 tss tss[k] (List.getElem_mem hlt)
    have hbad : okT ns.length tss[k] = false -> hdB f tss = false := fun h => by
     rw [hBv, hvO, List.all_eq_false.2 ⟨_, List.getElem_mem hlt, by rw [h]; simp⟩]; rfl
    have hbad2 : (pF (ns.zip tss[k]) g).good = false -> hdB f tss = false := fun h => by
     rw [hBv, hHG]
     cases hgd : (zc4 6 (tss.map fun ts => pF (ns.zip ts) g) (mkF 2 [])).good
     ·rw [Bool.and_false]
     ·have := zq9 6 (Or.inr (Or.inl rfl)) (mkF 2 []) hgd _ (List.mem_map_of_mem (List.getElem_mem hlt))
      rw [this] at h; cases h
    have hnx : okT ns.length tss[k] = true -> (tss.take (k + 1)).all (okT ns.length) = true := fun h => by
     rw [List.take_succ_eq_append_getElem hlt, List.all_append, hT]; simp [h]
    have hnx2 : (pF (ns.zip tss[k]) g).good = true -> ∀ ts ∈ tss.take (k + 1), (pF (ns.zip ts) g).good = true := fun h ts hm => by
     rw [List.take_succ_eq_append_getElem hlt] at hm
     rcases List.mem_append.1 hm with hm | hm
     ·exact hG ts hm
     ·rw [List.mem_singleton.1 hm]; exact h
    have htk : tss.take (k + 1) = tss.take k ++ [tss[k]] := by rw [List.take_succ_eq_append_getElem hlt]
    have hget : ∃ ts, ts = tss[k] := ⟨_, rfl⟩
    obtain ⟨ts, hts⟩ := hget
    rw [<- hts] at hmw hbad hbad2 hnx hnx2 htk
    have hov : okT ns.length ts = (decide (ts.length = ns.length) && ts.all grT) := rfl
    by_cases hl : ts.length = ns.length
    ·have hl0 : ((ts.length : Int) != (ns.length : Int)) = false := by simp [hl]
     rw [decide_eq_true hl, Bool.true_and] at hov
     have HTm := zxw ts (by omega) (by omega)
     cases han : ts.all grT
     ·rw [han] at hov HTm
      rw [hRv, hbad hov, if_neg (by simp)]
      simp only [zbw, List.map_nil]
      simp -implicitDefEqProofs only [go_sem, hlt, zai, <- hts, hl0]
      refine callF (HTm) (by simp -implicitDefEqProofs only [go_sem]) ?_
      simp -implicitDefEqProofs only [go_sem]
     ·rw [han] at hov HTm
      have hgr := zru hvn han
      have hzl : (ns.zip ts).length = ns.length := by rw [List.length_zip]; omega
      simp -implicitDefEqProofs only [go_sem, hlt, zai, <- hts, hl0]
      refine callF (HTm) (by simp -implicitDefEqProofs only [go_sem]) ?_
      simp -implicitDefEqProofs only [go_sem]
      refine zad (fun x : Nat × Fm × Bool => hd [(1, .one (.rn (ze4 tss))), (4, .one (.bx 4 0)), (5, vB false), (6, .one (.ow 640 0)), (7, .one (.bx 7 0)), (8, .one (.ow 736 0)), (9, vI k), (10, .one (.bx 10 0)), (11, vB x.2.2), (12, vI x.1)] [(4, [.t (.int .i64 0), .t (.str []), .nl 2, .t (.str []), .nl 5]), (7, [.t (.int .i64 g.op), .t (.str g.atom.name), .rn (tmS g.atom.args), .t (.str g.var), .rn (fmS g.parts)]), (10, [.t (.int .i64 x.2.1.op), .t (.str x.2.1.atom.name), .rn (tmS x.2.1.atom.args), .t (.str x.2.1.var), .rn (fmS x.2.1.parts)])] [(640, ⟨true, 1, ns.map fun s => [.str s], 0, true⟩), (736, ⟨false, 5, (tss.take k).map fun ts => fmC (pF (ns.zip ts) g), 0, true⟩)])
       (fun x => x.1 <= ns.length /\ ((x.2.2 = true /\ x.2.1.forms = true /\ za3 x.2.1 = true /\ x.2.1.nodes <= 40 /\ zv6 g (ns.zip ts) = zv6 x.2.1 ((ns.zip ts).drop x.1)) \/ (x.2.2 = false /\ zv6 g (ns.zip ts) = (x.2.1, false)))) (fun x => (ns.length - x.1)) (0, g, true) (zab ?_) ⟨Nat.zero_le _, Or.inl ⟨rfl, hfo, hpl, hgn, rfl⟩⟩ ?_
      ·simp -implicitDefEqProofs only [go_sem]
      ·rintro ⟨j, g1, ok⟩ ⟨hj, hx⟩
       simp only at hj hx
       rcases hx with ⟨rfl, hf1, hp1, hn1, hseq⟩ | ⟨rfl, hseq⟩
       ·by_cases hlj : j < ns.length
        ·have hlj2 : j < ts.length := by omega
         have hzj : j < (ns.zip ts).length := by omega
         rw [List.drop_eq_getElem_cons hzj, List.getElem_zip, qfc] at hseq
         have hgt := hgr.g (ns[j], ts[j]) (by rw [<- List.getElem_zip (h := hzj)]; exact List.getElem_mem hzj)
         have hvt := hgr.v (ns[j], ts[j]) (by rw [<- List.getElem_zip (h := hzj)]; exact List.getElem_mem hzj)
         have htw : ts[j].wt <= 240 := zna hgt.1
         have hw1 := zo5 hf1 hn1
         have hmul : (1 + g1.wt) * ts[j].wt <= 20801 * 240 := Nat.mul_le_mul (by omega) htw
         have HPt := qkg ns[j] ts[j] (by omega) g1 hf1 (by omega) (by omega)
         have hok1 : (zcz ns[j] ts[j] g1).2 = true -> (zcz ns[j] ts[j] g1).1.forms = true /\ za3 (zcz ns[j] ts[j] g1).1 = true /\ (zcz ns[j] ts[j] g1).1.nodes <= 40 := fun ho => by
          have hi := zs1 ns[j] ts[j] g1 hp1 ho
          rw [znp ns[j] ts[j] g1 hp1, <- zi2 _ g1 hf1] at ho
          rw [hi]
          exact ⟨ho, zi7 _ g1 hp1, by rw [qgo _ g1 hf1]; exact hn1⟩
         generalize zcz ns[j] ts[j] g1 = R at HPt hseq hok1
         obtain ⟨g2, ok2⟩ := R
         simp only at HPt hseq hok1
         simp only [fmD, zac g1, zac g2, tmD, zaa ts[j]] at HPt
         simp -implicitDefEqProofs only [go_sem, hlj]
         refine drawn (by kernel_rfl) ?_
         simp -implicitDefEqProofs only [go_sem, hlj, hlj2, hlt, zai, <- hts, zaa ts[j]]
         refine za1 (HPt) (by simp -implicitDefEqProofs only [go_sem]) ?_
         simp -implicitDefEqProofs only [go_sem]
         refine ⟨by kernel_rfl, (j + 1, g2, ok2), ⟨hlj, ?_⟩, by simp only; omega, zab ?_⟩
         ·cases ok2
          ·rw [if_neg (by simp)] at hseq
           exact Or.inr ⟨rfl, hseq⟩
          ·rw [if_pos rfl] at hseq
           obtain ⟨q1, q2, q3⟩ := hok1 rfl
           exact Or.inl ⟨rfl, q1, q2, q3, hseq⟩
         ·simp -implicitDefEqProofs only [go_sem]
          rw [zak (by omega)]
        ·rw [List.drop_of_length_le (by omega)] at hseq
         have hseq : zv6 g (ns.zip ts) = (g1, true) := hseq
         have hgood := zuv hgr hfo hpl
         rw [hseq, Bool.true_and] at hgood
         have hg1 := (zv2 hgr hfo hpl (by rw [hseq])).1
         rw [hseq] at hg1
         have hg1 : g1 = pF (ns.zip ts) g := hg1
         have HGd := ziw g1 (by have := zo5 hf1 hn1; omega)
         have ha : k <= 4294967295 := by omega
         have ha2 : min k tss.length <= 4294967295 := by omega
         cases hgd : g1.good
         ·rw [hgd] at HGd hgood
          rw [hRv, hbad2 hgood.symm, if_neg (by simp)]
          simp only [fmD, zac g1] at HGd
          simp only [zbw, List.map_nil]
          simp -implicitDefEqProofs only [go_sem, hlj]
          refine callF (HGd) (by simp -implicitDefEqProofs only [go_sem]) ?_
          simp -implicitDefEqProofs only [go_sem]
         ·rw [hgd] at HGd hgood
          simp only [fmD, zac g1] at HGd
          simp -implicitDefEqProofs only [go_sem, hlj]
          refine callF (HGd) (by simp -implicitDefEqProofs only [go_sem]) ?_
          simp -implicitDefEqProofs only [go_sem]
          refine zep (by simp -implicitDefEqProofs only [go_sem]) ?_
          simp -implicitDefEqProofs only [go_sem]
          refine apD false (by simp -implicitDefEqProofs only [go_sem, ne_eq, List.length_map, List.length_take, ha, ha2]) ?_
          simp -implicitDefEqProofs only [go_sem, ne_eq, List.length_map, List.length_take, ha, ha2]
          refine ⟨k + 1, ⟨hlt, hnx hov, hnx2 hgood.symm⟩, by omega, zab ?_⟩
          simp -implicitDefEqProofs only [go_sem]
          rw [zak (by omega), htk, List.map_append, List.map_singleton, <- hg1, zac g1]
          exact ⟨rfl, rfl⟩
       ·have hgood := zuv hgr hfo hpl
        rw [hseq, Bool.false_and] at hgood
        rw [hRv, hbad2 hgood.symm, if_neg (by simp)]
        simp only [zbw, List.map_nil]
        by_cases hlj : j < ns.length
        ·simp -implicitDefEqProofs only [go_sem, hlj]
        ·simp -implicitDefEqProofs only [go_sem, hlj]
    ·have hl0 : ((ts.length : Int) != (ns.length : Int)) = true := by rw [bne_iff_ne]; omega
     rw [decide_eq_false hl, Bool.false_and] at hov
     rw [hRv, hbad hov, if_neg (by simp)]
     simp only [zbw, List.map_nil]
     simp -implicitDefEqProofs only [go_sem, hlt, zai, <- hts, hl0]
   ·rw [List.take_of_length_le (by omega)] at hT hG
    rw [hvO, hT, Bool.true_and] at hBv
    have hkt : tss.take k = tss := List.take_of_length_le (by omega)
    have hwa : ∀ (i : Nat) (h : i < (tss.map fun ts => pF (ns.zip ts) g).length), (tss.map fun ts => pF (ns.zip ts) g)[i].wt <= 1048576 := fun i h => by
     rw [List.getElem_map]
     have := zja (hG _ (List.getElem_mem (by simpa using h)))
     omega
    have HJ := zp8 (tss.map fun ts => pF (ns.zip ts) g) 6 2 (by rw [List.length_map]; omega) hwa
    have hsum : ∀ l : List Fm, (∀ x ∈ l, x.wt <= 308800) -> (l.map Fm.wt).sum <= 308800 * l.length := fun l => by
     induction l with
     | nil => intro _; simp
     | cons x l ih =>
      intro h
      have := ih fun y hy => h y (by simp [hy])
      have := h x (by simp)
      rw [List.map_cons, List.sum_cons, List.length_cons]; omega
    have hs := hsum (tss.map fun ts => pF (ns.zip ts) g) fun x hx => by
     obtain ⟨ts, hm, rfl⟩ := List.mem_map.1 hx
     have := zja (hG ts hm)
     omega
    have hj := zrt 6 (mkF 2 []) (tss.map fun ts => pF (ns.zip ts) g)
    rw [List.length_map] at hs hj
    have h2 : (mkF 2 []).wt = 0 := rfl
    rw [<- hHG] at HJ hj
    have HI := ziw (zkn f tss) (by omega)
    rw [hRv, hBv]
    generalize zkn f tss = G at HJ HI
    cases hgd : G.good
    ·rw [hgd] at HI
     rw [if_neg (by simp)]
     simp only [fmD, zbw, List.map_nil, zac G, fmS, List.map_map, Function.comp_def] at HJ HI ⊢
     simp -implicitDefEqProofs only [go_sem, hlt, hkt]
     refine callF (HJ) (by simp -implicitDefEqProofs only [go_sem]) ?_
     simp -implicitDefEqProofs only [go_sem]
     refine callF (HI) (by simp -implicitDefEqProofs only [go_sem]) ?_
     simp -implicitDefEqProofs only [go_sem]
    ·rw [hgd] at HI
     rw [if_pos rfl]
     simp only [fmD, zbw, List.map_nil, zac G, fmS, List.map_map, Function.comp_def] at HJ HI ⊢
     simp -implicitDefEqProofs only [go_sem, hlt, hkt]
     refine callF (HJ) (by simp -implicitDefEqProofs only [go_sem]) ?_
     simp -implicitDefEqProofs only [go_sem]
     refine callF (HI) (by simp -implicitDefEqProofs only [go_sem]) ?_
     simp -implicitDefEqProofs only [go_sem]
end Go.Proofs.YtemnhgmgeijkcaaGreat
namespace Go.Proofs.YtemnhgmgeijkcaaGreat
set_option linter.unusedSimpArgs false
set_option linter.unusedVariables false
set_option linter.unusedSectionVars false
set_option maxRecDepth 4000
open Go.RowKit
def zfu : (List Tm) -> Nat -> (List Tm) × Nat
 | s0, k => ((zbf s0 k).1, (zbf s0 k).2)
def zdb : List (List Tm) -> Nat -> List (List Tm) × Nat
 | [], k => ([], k)
 | a :: xs, k => ((zfu a k).1 :: (zdb xs (zfu a k).2).1, (zdb xs (zfu a k).2).2)
def zgo : (List Tm) -> Nat
 | s0 => 1 + zeh s0
def zea : List (List Tm) -> Nat
 | [] => 0
 | a :: xs => zgo a + zea xs
theorem zxq : ∀ (a : (List Tm)) (k : Nat), k <= (zfu a k).2 /\ (zfu a k).2 <= k + zgo a
 | s0, k => by have h_s0 := zdp s0 k; simp only [zfu, zgo]; omega
theorem zqj : ∀ (xs : List (List Tm)) (k : Nat), k <= (zdb xs k).2 /\ (zdb xs k).2 <= k + zea xs
 | [], k => ⟨Nat.le_refl _, Nat.le_refl _⟩
 | a :: xs, k => by have h1 := zxq a k; have h2 := zqj xs (zfu a k).2; simp only [zdb, zea]; omega
theorem zld : ∀ xs : List (List Tm), xs.length <= zea xs
  | [] => Nat.le_refl _
  | a :: xs => by have := zld xs; have : 1 <= zgo a := by simp only [zgo]; omega
                  simp only [List.length_cons, zea]; omega
theorem znq (xs : List (List Tm)) :
  ∀ k : Nat, 0 < k -> k + zea xs <= 4611686018427387904 -> IC Tryz.prog 21 [] (.one (ze4 xs)) [iD k] (.one (ze4 (zdb xs k).1)) [iD (zdb xs k).2] := by
 intro k h0 hk
 refine zt7 Tryz.call21 Tryz.func21 rfl (by kernel_rfl) (by simp only [zdo, rd, List.map_cons, List.map_nil, List.nil_append, List.length_cons, List.length_nil, Tryz.ntmps21]; omega) (by simp only [Tryz.ntmps21]; omega) (fun vs => ?_)
 simp -implicitDefEqProofs only [go_sem, Tryz.results21, qan, zko, zdo, PI]
 refine zad (fun (x : List (List Tm) × List (List Tm) × Nat) => hd [(0, .one (.ow 0 0)), (1000000, .one (.ow 0 0)), (1, vI x.2.2), (5, vI x.1.length)] [] [(0, ⟨true, 1, x.1.map (fun s => [tmS s]) ++ ze9 vs x.1.length (x.2.1.map (fun s => [tmS s])), 0, true⟩)])
  (fun x => (zdb xs k).1 = x.1 ++ (zdb x.2.1 x.2.2).1 /\ (zdb xs k).2 = (zdb x.2.1 x.2.2).2 /\ 0 < x.2.2 /\ x.2.2 + zea x.2.1 <= 4611686018427387904 /\ x.1.length + x.2.1.length = xs.length /\ ∀ a ∈ x.2.1, a ∈ xs) (fun x => x.2.1.length) ([], xs, k) (zab ?_) ?_ ?_
 ·simp -implicitDefEqProofs only [go_sem]
 ·exact ⟨rfl, rfl, h0, hk, by simp, fun _ h => h⟩
 ·intro ⟨dn, rest, kk⟩ ⟨h1, h2, h3, h4, h6, h5⟩
  simp only at h1 h2 h3 h4 h5 h6
  cases rest with
  | nil =>
   simp only [zdb, List.append_nil] at h1 h2
   simp -implicitDefEqProofs only [go_sem, h1, h2]
  | cons s0 rest =>
   simp only [zdb, zfu, zea, zgo] at h1 h2 h4
   have hc_s0 := zdp s0 kk
   have hln := zld xs
   rw [List.length_cons] at h6
   have wl : IntKind.i64.wrap ((dn.length : Int) + 1) = ((dn.length + 1 : Nat) : Int) := zak (by omega)
   simp -implicitDefEqProofs only [go_sem, List.map_cons]
   refine callN (l := [(0, .one (.ow 0 0)), (1000000, .one (.ow 0 0)), (5, vI dn.length), (15, .one (.cv (vs dn.length 0))), (16, vI (kk : Nat))]) (bl := []) (el := [(0, ⟨true, 1, dn.map (fun s => [tmS s]) ++ [.pin (vs dn.length 0) (tmS s0)] :: ze9 vs (dn.length + 1) (rest.map (fun s => [tmS s])), 0, true⟩)]) 0 dn.length 0 (zgm s0 kk (by omega) (by omega)) (by simp -implicitDefEqProofs only [go_sem, tmS]) rfl rfl rfl (by simp -implicitDefEqProofs only [go_sem, tmS]) rfl ?_
   simp -implicitDefEqProofs only [go_sem, wl]
   refine ⟨(dn ++ [(zbf s0 kk).1], rest, (zbf s0 kk).2), ⟨by simpa using h1, h2, by show 0 < (zbf s0 kk).2; omega, by show (zbf s0 kk).2 + zea rest <= _; omega, by simp; omega, fun b hb => h5 b (by simp [hb])⟩, by simp, zab ?_⟩
   simp -implicitDefEqProofs only [go_sem, wl, List.map_cons, List.map_append, List.append_assoc]
theorem zo1 (xs : List (List Tm)) (k : Nat) (h0 : 0 < k) (hk : k + zea xs <= 4611686018427387904) : IC Tryz.prog 21 [] (.one (ze4 xs)) [iD k] (.one (ze4 (zdb xs k).1)) [iD (zdb xs k).2] := znq xs k h0 hk
end Go.Proofs.YtemnhgmgeijkcaaGreat
namespace Go.Proofs.YtemnhgmgeijkcaaGreat
set_option linter.unusedSimpArgs false
set_option linter.unusedVariables false
set_option linter.unusedSectionVars false
set_option maxRecDepth 4000
open Go.RowKit
set_option maxHeartbeats 400000 in
theorem zw5 (xs ys : List (List Tm)) : FC Tryz.prog 19 [.one (ze4 xs), .one (ze4 ys)] [bD (same xs ys)] := by
 refine zc1 (fun hw => ?_) Tryz.call19
 have hl : xs.length <= 9223372036854775807 := by simpa [zf5, wfT] using hw.1.1
 have hl2 : ys.length <= 9223372036854775807 := by simpa [zf5, wfT] using hw.2.1.1
 refine zaj Tryz.call19 Tryz.func19 rfl (by kernel_rfl) (zav (by kernel_rfl)) ?_
 simp -implicitDefEqProofs only [go_sem, Tryz.results19]
 refine ⟨fun h => ?_, fun h => ?_⟩
 ·rw [zct.2 (by rintro rfl; simp at h)]
 ·have hlen : xs.length = ys.length := by simp at h; omega
  refine zad (fun k : Nat => hd [(0, vT (ze4 xs)), (1, vT (ze4 ys)), (4, vB false), (5, vI k)] [] []) (fun k => k <= xs.length /\ same xs ys = same (xs.drop k) (ys.drop k)) (fun k => xs.length - k) 0 (zab ?_) ?_ ?_
  ·simp -implicitDefEqProofs only [go_sem]
  ·simp
  ·intro k ⟨hk, hr⟩
   by_cases hlt : k < xs.length
   ·have hk2 : k < ys.length := by omega
    simp -implicitDefEqProofs only [go_sem, List.length_map, hlt]
    refine drawn (by kernel_rfl) ?_
    simp -implicitDefEqProofs only [go_sem, List.length_map, zai, hlt, hk2]
    refine za1 (qdq xs[k] ys[k]) (by simp -implicitDefEqProofs only [go_sem]) ?_
    simp -implicitDefEqProofs only [go_sem]
    refine ⟨by kernel_rfl, fun h => ?_, fun h => ?_⟩
    ·rw [hr, List.drop_eq_getElem_cons hlt, List.drop_eq_getElem_cons hk2, zcm, show same xs[k] ys[k] = false by simpa using h]; rfl
    ·rw [List.drop_eq_getElem_cons hlt, List.drop_eq_getElem_cons hk2, zcm, show same xs[k] ys[k] = true by simpa using h, Bool.true_and] at hr
     rw [zak (by omega)]
     exact ⟨k + 1, ⟨by omega, hr⟩, by omega, zab (by simp -implicitDefEqProofs only [go_sem])⟩
   ·simp -implicitDefEqProofs only [go_sem, List.length_map, hlt]
    rw [hr, List.drop_of_length_le (by omega), List.drop_of_length_le (by omega), zf0]
end Go.Proofs.YtemnhgmgeijkcaaGreat
namespace Go.Proofs.YtemnhgmgeijkcaaGreat
set_option linter.unusedSimpArgs false
set_option linter.unusedVariables false
set_option linter.unusedSectionVars false
set_option maxRecDepth 4000
open Go.RowKit
theorem zw2 (xs : List (List Tm)) (l : Int) (h0 : 0 <= l) (h1 : l <= 1048576) : FC Tryz.prog 13 [.one (ze4 xs), iD l] [iD (szR (ziq xs) l)] := by
 refine zc1 (fun hw => ?_) Tryz.call13
 have hl : xs.length <= 9223372036854775807 := by simpa [zf5, wfT] using hw.1.1
 refine zaj Tryz.call13 Tryz.func13 rfl (by kernel_rfl) (zav (by kernel_rfl)) ?_
 simp -implicitDefEqProofs only [go_sem, Tryz.results13]
 rw [zbc (by omega) (by omega)]
 have hW : ziq xs = xs.length + (xs.map ze6).sum := rfl
 refine ⟨fun h => ?_, fun h => ?_⟩
 ·rw [zdw (by simp at h; omega)]
 ·have hlen : (xs.length : Int) <= l := by simp at h; omega
  refine zad (fun k : Nat => hd [(0, vT (ze4 xs)), (1, vI (l - xs.length - zn6 ze6 xs k)), (5, vI k)] [] []) (fun k => k <= xs.length /\ 0 <= l - xs.length - zn6 ze6 xs k) (fun k => xs.length - k) 0 (zab ?_) ?_ ?_
  ·simp -implicitDefEqProofs only [go_sem]
   simp [zem]
  ·simpa [zem] using hlen
  ·intro k ⟨hk, hp⟩
   by_cases hlt : k < xs.length
   ·have hs := zjb ze6 xs k hlt
    have hs2 := zsq ze6 xs (k + 1)
    simp -implicitDefEqProofs only [go_sem, List.length_map, zai, hlt]
    refine callF (qdy xs[k] (l - xs.length - zn6 ze6 xs k) hp (by omega)) (by simp -implicitDefEqProofs only [go_sem]) ?_
    simp -implicitDefEqProofs only [go_sem]
    refine ⟨fun h => ?_, fun h => ?_⟩
    ·have := zhv hp (by simpa using h)
     rw [zdw (by omega)]
    ·obtain ⟨h2, h3⟩ := zfx (by simpa using h)
     rw [zak (by omega)]
     exact ⟨k + 1, ⟨hlt, by omega⟩, by omega, zab (by simp -implicitDefEqProofs only [go_sem]; rw [h3]; congr 1; omega)⟩
   ·simp -implicitDefEqProofs only [go_sem, List.length_map, hlt]
    have hall := zm7 ze6 xs k (by omega)
    rw [hall, zq8 (by omega)]; congr 1; omega
set_option maxHeartbeats 400000 in
theorem zxd (xs : List (List Tm)) (hs : ziq xs <= 1048576) : FC Tryz.prog 16 [.one (ze4 xs)] [.one (ze4 xs)] := by
 have hW : ziq xs = xs.length + (xs.map ze6).sum := rfl
 refine zaj Tryz.call16 Tryz.func16 rfl (by kernel_rfl) (zav (by kernel_rfl)) ?_
 simp -implicitDefEqProofs only [go_sem, Tryz.results16]
 refine qf8 (by simp -implicitDefEqProofs only [go_sem]; omega) ?_
 simp -implicitDefEqProofs only [go_sem]
 refine zad (fun k : Nat => hd [(0, vT (ze4 xs)), (3, .one (.ow 224 0)), (4, vI k)] [] [(224, ⟨true, 1, (xs.take k).map (fun s => [tmS s]) ++ List.replicate (xs.length - k) [T.sl 2 []], 0, true⟩)]) (fun k => k <= xs.length) (fun k => xs.length - k) 0 (zab ?_) (Nat.zero_le _) ?_
 ·simp -implicitDefEqProofs only [go_sem]
  simp
 ·intro k hk
  by_cases hlt : k < xs.length
  ·have hlen : ((xs.take k).map (fun s => [tmS s]) ++ List.replicate (xs.length - k) [T.sl 2 []]).length = xs.length := by simp; omega
   have hlt2 : k < k + (xs.length - k) := by omega
   have hmw := zbk ze6 xs xs[k] (List.getElem_mem hlt)
   simp -implicitDefEqProofs only [go_sem, List.length_map, zai, hlt]
   refine callF (qca xs[k] (by omega)) (by simp -implicitDefEqProofs only [go_sem, hlen, hlt, List.length_append, List.length_map, List.length_take, List.length_replicate, Nat.min_eq_left hk, hlt2]) ?_
   simp -implicitDefEqProofs only [go_sem, hlen, hlt, List.length_append, List.length_map, List.length_take, List.length_replicate, Nat.min_eq_left hk, hlt2]
   refine zge (by simp -implicitDefEqProofs only [go_sem]; simp) ?_
   simp -implicitDefEqProofs only [go_sem]
   rw [zak (by omega)]
   refine ⟨k + 1, by omega, by omega, zab ?_⟩
   simp -implicitDefEqProofs only [go_sem]
   have hf := zgr ((xs.take k).map fun s => [tmS s]) xs.length k [T.sl 2 []] [tmS xs[k]] (by simp; omega) hlt (by simp)
   rw [hf, List.take_succ_eq_append_getElem hlt, List.map_append, List.map_singleton]
  ·simp -implicitDefEqProofs only [go_sem, List.length_map, hlt]
   simp [List.take_of_length_le (show xs.length <= k by omega), show xs.length - k = 0 by omega]
end Go.Proofs.YtemnhgmgeijkcaaGreat
namespace Go.Proofs.YtemnhgmgeijkcaaGreat
set_option linter.unusedSimpArgs false
set_option linter.unusedVariables false
set_option linter.unusedSectionVars false
set_option maxRecDepth 4000
open Go.RowKit
theorem qhy (a b : Str) : FC Tryz.prog 292 [sD a, sD b] [iD (zyg a b)] := by
 have hv : zyg a b = if Op.bytesLess a b = true then -1 else if (a == b) = true then 0 else 1 := rfl
 rw [hv]
 cases h1 : Op.bytesLess a b <;> cases h2 : (a == b)
 all_goals
  refine zaj Tryz.call292 Tryz.func292 rfl (by kernel_rfl) (zav (by kernel_rfl)) ?_
  simp -implicitDefEqProofs only [go_sem, Tryz.results292, h1, h2]
  try simp
theorem zwi (a b : Tm) : zgk a b = if (zay a.name && !zay b.name) = true then -1 else if (zay b.name && !zay a.name) = true then 1 else if (a.name == b.name) = false then zyg a.name b.name
  else if a.args.length < b.args.length then -1 else if b.args.length < a.args.length then 1 else zhx a.args b.args := by
 rw [zsb]
 unfold hdT qlw
 generalize zay a.name = x
 generalize zay b.name = y
 by_cases hn : a.name = b.name
 ·have h0 : zyg a.name b.name = 0 := zju.2 hn
  rw [h0, hn]
  unfold cmpN
  by_cases h1 : a.args.length < b.args.length
  ·cases x <;> cases y <;> simp [orE, h1]
  ·by_cases h2 : b.args.length < a.args.length
   ·cases x <;> cases y <;> simp [orE, h1, h2]
   ·cases x <;> cases y <;> simp [orE, h1, h2]
 ·have h0 : zyg a.name b.name ≠ 0 := fun h => hn (zju.1 h)
  have hb : (a.name == b.name) = false := by simpa using hn
  cases x <;> cases y <;> simp [orE, h0, hb]
set_option maxHeartbeats 1000000 in
theorem zoz (a b : Tm) (H : ∀ x ∈ a.args, ∀ y, FC Tryz.prog 264 [tmD x, tmD y] [iD (zgk x y)]) : FC Tryz.prog 264 [tmD a, tmD b] [iD (zgk a b)] := by
 refine zc1 (fun hw => ?_) Tryz.call264
 simp only [tmD, zaa] at hw ⊢
 have hl : a.args.length <= 9223372036854775807 := by simp [zf5, wfT, zra] at hw; exact hw.1.2.1
 have hv := zwi a b
 have HV1 := zgl a.name
 have HV2 := zgl b.name
 have HT := qhy a.name b.name
 by_cases hxy : zay a.name = zay b.name
 ·rw [hxy] at HV1 hv
  rw [Bool.and_not_self, if_neg (by simp), if_neg (by simp)] at hv
  generalize zay b.name = x at HV1 HV2
  cases x
  all_goals
   cases hn : (a.name == b.name)
   ·rw [hn, if_pos rfl] at hv
    rw [hv]
    have hn' : (a.name != b.name) = true := by simp [bne, hn]
    generalize zyg a.name b.name = r at HT
    refine zaj Tryz.call264 Tryz.func264 rfl (by kernel_rfl) (zav (by kernel_rfl)) ?_
    simp -implicitDefEqProofs only [go_sem, Tryz.results264]
    refine drawn (by kernel_rfl) ?_
    simp -implicitDefEqProofs only [go_sem]
    refine za1 (HV1) (by simp -implicitDefEqProofs only [go_sem]) ?_
    simp -implicitDefEqProofs only [go_sem]
    refine za1 (HV2) (by simp -implicitDefEqProofs only [go_sem]) ?_
    simp -implicitDefEqProofs only [go_sem]
    refine ⟨by kernel_rfl, ?_⟩
    simp -implicitDefEqProofs only [go_sem, hn, hn']
    refine callF (HT) (by simp -implicitDefEqProofs only [go_sem]) ?_
    simp -implicitDefEqProofs only [go_sem]
   ·rw [hn, if_neg (by simp)] at hv
    have hn' : (a.name != b.name) = false := by simp [bne, hn]
    refine zaj Tryz.call264 Tryz.func264 rfl (by kernel_rfl) (zav (by kernel_rfl)) ?_
    simp -implicitDefEqProofs only [go_sem, Tryz.results264]
    refine drawn (by kernel_rfl) ?_
    simp -implicitDefEqProofs only [go_sem]
    refine za1 (HV1) (by simp -implicitDefEqProofs only [go_sem]) ?_
    simp -implicitDefEqProofs only [go_sem]
    refine za1 (HV2) (by simp -implicitDefEqProofs only [go_sem]) ?_
    simp -implicitDefEqProofs only [go_sem]
    refine ⟨by kernel_rfl, ?_⟩
    simp -implicitDefEqProofs only [go_sem, hn, hn']
    refine ⟨fun h1 => ?_, fun h1 => ⟨fun h2 => ?_, fun h2 => ?_⟩⟩
    ·rw [hv, if_pos (by simpa using h1)]
    ·rw [hv, if_neg (by simpa using h1), if_pos (by simpa using h2)]
    ·rw [if_neg (by simpa using h1), if_neg (by simpa using h2)] at hv
     have hlen : a.args.length = b.args.length := by simp at h1 h2; omega
     refine zad (fun k : Nat => hd [(2, .one (.bx 2 0)), (3, .one (.bx 3 0)), (7, vI k)] [(2, [.t (.str a.name), .t (tmS a.args)]), (3, [.t (.str b.name), .t (tmS b.args)])] []) (fun k => k <= a.args.length /\ zgk a b = zhx (a.args.drop k) (b.args.drop k)) (fun k => a.args.length - k) 0 (zab ?_) ⟨Nat.zero_le _, by simpa using hv⟩ ?_
     ·simp -implicitDefEqProofs only [go_sem]
     ·intro k ⟨hk, hr⟩
      by_cases hlt : k < a.args.length
      ·have hk2 : k < b.args.length := by omega
       have HC := H a.args[k] (List.getElem_mem hlt) b.args[k]
       rw [List.drop_eq_getElem_cons hlt, List.drop_eq_getElem_cons hk2, zhx] at hr
       generalize zgk a.args[k] b.args[k] = c at HC hr
       simp only [tmD, zaa a.args[k], zaa b.args[k]] at HC
       simp -implicitDefEqProofs only [go_sem, hlt]
       refine drawn (by kernel_rfl) ?_
       simp -implicitDefEqProofs only [go_sem, hlt, hk2, zai, zaa a.args[k], zaa b.args[k]]
       refine za1 (HC) (by simp -implicitDefEqProofs only [go_sem]) ?_
       simp -implicitDefEqProofs only [go_sem]
       refine ⟨by kernel_rfl, fun h => ?_, fun h => ?_⟩
       ·have : c ≠ 0 := by simpa using h
        unfold orE at hr
        rw [if_neg this] at hr
        rw [hr]
       ·have : c = 0 := by simpa using h
        unfold orE at hr
        rw [if_pos this] at hr
        refine ⟨k + 1, ⟨hlt, hr⟩, by omega, zab ?_⟩
        simp -implicitDefEqProofs only [go_sem]
        rw [zak (by omega)]
      ·rw [List.drop_of_length_le (by omega), List.drop_of_length_le (by omega), zhx] at hr
       rw [hr]
       simp -implicitDefEqProofs only [go_sem, hlt]
 ·have e : zay b.name = !zay a.name := by revert hxy; cases zay a.name <;> cases zay b.name <;> simp
  rw [e] at HV2 hv
  generalize zay a.name = x at HV1 HV2 hv
  cases x
  all_goals
   simp only [Bool.not_true, Bool.not_false, Bool.and_self, Bool.and_false, Bool.and_true, Bool.false_and, Bool.true_and, if_true, if_false, reduceCtorEq] at HV2 hv
   rw [hv]
   refine zaj Tryz.call264 Tryz.func264 rfl (by kernel_rfl) (zav (by kernel_rfl)) ?_
   simp -implicitDefEqProofs only [go_sem, Tryz.results264]
   refine drawn (by kernel_rfl) ?_
   simp -implicitDefEqProofs only [go_sem]
   refine za1 (HV1) (by simp -implicitDefEqProofs only [go_sem]) ?_
   simp -implicitDefEqProofs only [go_sem]
   refine za1 (HV2) (by simp -implicitDefEqProofs only [go_sem]) ?_
   simp -implicitDefEqProofs only [go_sem]
   kernel_rfl
theorem zsa : ∀ a b : Tm, FC Tryz.prog 264 [tmD a, tmD b] [iD (zgk a b)] := zba fun n xs ih b => zoz (.mk n xs) b ih
end Go.Proofs.YtemnhgmgeijkcaaGreat
namespace Go.Proofs.YtemnhgmgeijkcaaGreat
set_option linter.unusedSimpArgs false
set_option linter.unusedVariables false
set_option linter.unusedSectionVars false
set_option maxRecDepth 4000
open Go.RowKit
theorem qbe {l : List Tm} {t : Tm} {k : Nat} (hk : k <= l.length) (h1 : ∀ x ∈ l.take k, ltT x t = true) (h2 : ∀ h : k < l.length, ltT l[k] t = false) : zke l t = if dec ((l.drop k).head? = some t) = true then l else l.take k ++ [t] ++ l.drop k := by
 obtain ⟨e1, e2⟩ := zdk (p := fun x => ltT x t) hk h1 h2
 unfold zke
 rw [e1, e2]
set_option maxHeartbeats 2000000 in
theorem qih (l : List Tm) (t : Tm) (hl : l.length <= 2147483648) : RC Tryz.prog 192 [.one (tmS l), tmD t] [.one (tmS (zke l t))] := by
 simp only [tmD, zaa t]
 refine zou Tryz.call192 Tryz.func192 rfl (by kernel_rfl) (zav (by kernel_rfl)) ?_
 simp -implicitDefEqProofs only [go_sem, Tryz.results192]
 refine zad (fun k : Nat => hd [(0, vT (tmS l)), (3, .one (.bx 3 0)), (5, vI k)] [(3, [.t (.str t.name), .t (tmS t.args)])] []) (fun k => k <= l.length /\ ∀ x ∈ l.take k, ltT x t = true) (fun k => l.length - k) 0 (zab ?_) ⟨Nat.zero_le _, by simp⟩ ?_
 ·simp -implicitDefEqProofs only [go_sem]
 ·intro k ⟨hk, hr⟩
  have hm1 : min k l.length <= 4294967296 := by omega
  have hm2 : min k l.length <= 4294967295 := by omega
  have hm3 : min k l.length + 1 + (l.length - k) <= 4294967296 := by omega
  by_cases hlt : k < l.length
  ·have HC := zsa l[k] t
   have HS := zut l[k] t
   have hnx : ltT l[k] t = true -> ∀ x ∈ l.take (k + 1), ltT x t = true := fun hb x hx => by
    rw [List.take_succ_eq_append_getElem hlt] at hx
    rcases List.mem_append.1 hx with hx | hx
    ·exact hr x hx
    ·rw [List.mem_singleton.1 hx, hb]
   simp only [tmD, zaa l[k], zaa t] at HC HS
   have hcd : decide (zgk l[k] t < 0) = ltT l[k] t := rfl
   generalize zgk l[k] t = c at HC hcd
   simp -implicitDefEqProofs only [go_sem, hlt]
   refine drawn (by kernel_rfl) ?_
   simp -implicitDefEqProofs only [go_sem, hlt, zai, zaa l[k]]
   refine qi8 (HC) (by simp -implicitDefEqProofs only [go_sem]) ?_
   simp -implicitDefEqProofs only [go_sem]
   refine ⟨by kernel_rfl, fun h => ?_, fun h => ?_⟩
   ·refine ⟨k + 1, ⟨hlt, hnx (by rw [<- hcd]; exact h)⟩, by omega, zab ?_⟩
    simp -implicitDefEqProofs only [go_sem]
    rw [zak (by omega)]
   ·rw [h] at hcd
    have hp := qbe hk hr fun _ => hcd.symm
    have hh : (l.drop k).head? = some l[k] := by rw [List.head?_drop, List.getElem?_eq_getElem hlt]
    refine drawn (by kernel_rfl) ?_
    simp -implicitDefEqProofs only [go_sem, hlt, zai, zaa l[k]]
    refine qi8 (HS) (by simp -implicitDefEqProofs only [go_sem]) ?_
    simp -implicitDefEqProofs only [go_sem]
    refine ⟨by kernel_rfl, fun h2 => ?_, fun h2 => ?_⟩
    ·rw [hp, if_pos (by rw [hh, zew, zcj.1 h2])]
    ·rw [if_neg (by rw [hh, zew]; intro e; rw [Option.some.inj e, zbd] at h2; cases h2)] at hp
     refine drawn (by kernel_rfl) ?_
     simp -implicitDefEqProofs only [go_sem, hk]
     refine zi1 (by simp -implicitDefEqProofs only [go_sem, hk]) ?_
     simp -implicitDefEqProofs only [go_sem, hk]
     refine zjo false (by simp -implicitDefEqProofs only [go_sem, hk, ne_eq, Nat.zero_add, hm1, hm2, hm3, zb6, List.length_drop, List.length_take, List.length_append, List.length_map]) ?_
     simp -implicitDefEqProofs only [go_sem, hk, ne_eq, Nat.zero_add, hm1, hm2, hm3, zb6, List.length_drop, List.length_take, List.length_append, List.length_map]
     refine zi1 (by simp -implicitDefEqProofs only [go_sem, hk]) ?_
     simp -implicitDefEqProofs only [go_sem, hk]
     refine zjo false (by simp -implicitDefEqProofs only [go_sem, hk, ne_eq, Nat.zero_add, hm1, hm2, hm3, zb6, List.length_drop, List.length_take, List.length_append, List.length_map]) ?_
     simp -implicitDefEqProofs only [go_sem, hk, ne_eq, Nat.zero_add, hm1, hm2, hm3, zb6, List.length_drop, List.length_take, List.length_append, List.length_map]
     refine zjo false (by simp -implicitDefEqProofs only [go_sem, hk, ne_eq, Nat.zero_add, hm1, hm2, hm3, zb6, List.length_drop, List.length_take, List.length_append, List.length_map]) ?_
     simp -implicitDefEqProofs only [go_sem, hk, ne_eq, Nat.zero_add, hm1, hm2, hm3, zb6, List.length_drop, List.length_take, List.length_append, List.length_map]
     refine ⟨by kernel_rfl, ?_⟩
     rw [hp, List.map_append, List.map_append, List.map_take, List.map_drop, List.map_singleton, zaa t]
  ·have hp := qbe hk hr fun h => absurd h hlt
   rw [if_neg (by rw [List.drop_of_length_le (by omega), zew]; simp)] at hp
   simp -implicitDefEqProofs only [go_sem, hlt]
   refine drawn (by kernel_rfl) ?_
   simp -implicitDefEqProofs only [go_sem, hlt]
   refine ⟨by kernel_rfl, ?_⟩
   refine drawn (by kernel_rfl) ?_
   simp -implicitDefEqProofs only [go_sem, hlt]
   refine ⟨by kernel_rfl, ?_⟩
   refine drawn (by kernel_rfl) ?_
   simp -implicitDefEqProofs only [go_sem, hk]
   refine zi1 (by simp -implicitDefEqProofs only [go_sem, hk]) ?_
   simp -implicitDefEqProofs only [go_sem, hk]
   refine zjo false (by simp -implicitDefEqProofs only [go_sem, hk, ne_eq, Nat.zero_add, hm1, hm2, hm3, zb6, List.length_drop, List.length_take, List.length_append, List.length_map]) ?_
   simp -implicitDefEqProofs only [go_sem, hk, ne_eq, Nat.zero_add, hm1, hm2, hm3, zb6, List.length_drop, List.length_take, List.length_append, List.length_map]
   refine zi1 (by simp -implicitDefEqProofs only [go_sem, hk]) ?_
   simp -implicitDefEqProofs only [go_sem, hk]
   refine zjo false (by simp -implicitDefEqProofs only [go_sem, hk, ne_eq, Nat.zero_add, hm1, hm2, hm3, zb6, List.length_drop, List.length_take, List.length_append, List.length_map]) ?_
   simp -implicitDefEqProofs only [go_sem, hk, ne_eq, Nat.zero_add, hm1, hm2, hm3, zb6, List.length_drop, List.length_take, List.length_append, List.length_map]
   refine zjo false (by simp -implicitDefEqProofs only [go_sem, hk, ne_eq, Nat.zero_add, hm1, hm2, hm3, zb6, List.length_drop, List.length_take, List.length_append, List.length_map]) ?_
   simp -implicitDefEqProofs only [go_sem, hk, ne_eq, Nat.zero_add, hm1, hm2, hm3, zb6, List.length_drop, List.length_take, List.length_append, List.length_map]
   refine ⟨by kernel_rfl, ?_⟩
   rw [hp, List.map_append, List.map_append, List.map_take, List.map_drop, List.map_singleton, zaa t]
end Go.Proofs.YtemnhgmgeijkcaaGreat
namespace Go.Proofs.YtemnhgmgeijkcaaGreat
set_option linter.unusedSimpArgs false
set_option linter.unusedVariables false
set_option linter.unusedSectionVars false
set_option maxRecDepth 4000
open Go.RowKit
theorem zo3 : ∀ (ts ys : List Tm), (ts.foldl zke ys).length <= ys.length + ts.length
 | [], ys => by simp
 | t :: ts, ys => by
  have h1 := zo3 ts (zke ys t)
  have h2 : (zke ys t).length <= ys.length + 1 := by
   unfold zke
   split
   ·omega
   ·conv => rhs; rw [<- List.takeWhile_append_dropWhile (p := fun x => ltT x t) (l := ys)]
    simp only [List.length_append, List.length_cons, List.length_nil]
    omega
  rw [List.foldl_cons, List.length_cons]; omega
theorem qde (f : Fm) (ys : List Tm) {k : Nat} (hlt : k < f.parts.length) : ((f.parts.map atF).take (k + 1)).flatten.foldl zke ys = (atF f.parts[k]).foldl zke (((f.parts.map atF).take k).flatten.foldl zke ys) := by
 rw [zmy f hlt, List.foldl_append]
theorem zxu (f : Fm) (H : ∀ p ∈ f.parts, ∀ ys : List Tm, ys.length + (atF p).length <= 1073741824 -> RC Tryz.prog 132 [.one (tmS ys), fmD p] [.one (tmS ((atF p).foldl zke ys))]) (ys : List Tm) (hs : ys.length + (atF f).length <= 1073741824) (hw : f.wt <= 1048576) : RC Tryz.prog 132 [.one (tmS ys), fmD f] [.one (tmS ((atF f).foldl zke ys))] := by
 have hv := zgb f
 have hW := f.wt_eq
 simp only [fmD, zac f]
 cases h3 : f.op == 3
 ·rw [h3, if_neg (by simp)] at hv
  rw [hv] at hs ⊢
  refine zou Tryz.call132 Tryz.func132 rfl (by kernel_rfl) (zav (by kernel_rfl)) ?_
  simp -implicitDefEqProofs only [go_sem, Tryz.results132]
  simp -implicitDefEqProofs only [go_sem, h3]
  refine zad (fun k : Nat => hd [(0, vT (tmS (((f.parts.map atF).take k).flatten.foldl zke ys))), (3, .one (.bx 3 0)), (5, vI k)] [(3, [.t (.int .i64 f.op), .t (.str f.atom.name), .t (tmS f.atom.args), .t (.str f.var), .t (fmS f.parts)])] []) (fun k => k <= f.parts.length) (fun k => f.parts.length - k) 0 (zab ?_) (Nat.zero_le _) ?_
  ·simp -implicitDefEqProofs only [go_sem]
   rfl
  ·intro k hk
   by_cases hlt : k < f.parts.length
   ·have hT := qde f ys hlt
    have hg := zqk (f.parts.map atF) (k + 1)
    rw [zmy f hlt, List.length_append] at hg
    have hl := zo3 ((f.parts.map atF).take k).flatten ys
    have HC := H f.parts[k] (List.getElem_mem hlt) (((f.parts.map atF).take k).flatten.foldl zke ys) (by omega)
    rw [<- hT] at HC
    simp only [fmD, zac f.parts[k]] at HC
    simp -implicitDefEqProofs only [go_sem, hlt, zai, zac f.parts[k]]
    refine callR (HC) (by simp -implicitDefEqProofs only [go_sem]) ?_
    simp -implicitDefEqProofs only [go_sem]
    refine ⟨k + 1, hlt, by omega, zab ?_⟩
    simp -implicitDefEqProofs only [go_sem]
    rw [zak (by omega)]
   ·have ht : (f.parts.map atF).take k = f.parts.map atF := List.take_of_length_le (by simpa using hlt)
    simp -implicitDefEqProofs only [go_sem, hlt, ht]
 ·rw [h3, if_pos rfl] at hv
  rw [hv] at hs ⊢
  have HP := qih ys f.atom (by omega)
  simp only [tmD, zaa f.atom] at HP
  refine zou Tryz.call132 Tryz.func132 rfl (by kernel_rfl) (zav (by kernel_rfl)) ?_
  simp -implicitDefEqProofs only [go_sem, Tryz.results132]
  simp -implicitDefEqProofs only [go_sem, h3]
  refine callR (HP) (by simp -implicitDefEqProofs only [go_sem]) ?_
  simp -implicitDefEqProofs only [go_sem]
  rfl
theorem qee : ∀ f : Fm, f.wt <= 1048576 -> ∀ ys : List Tm, ys.length + (atF f).length <= 1073741824 -> RC Tryz.prog 132 [.one (tmS ys), fmD f] [.one (tmS ((atF f).foldl zke ys))] :=
 za7 fun o a v ps ih hw ys hs => zxu (.mk o a v ps) (fun x hx ys hs => ih x hx (Nat.le_trans (zbx (a := .mk o a v ps) hx) hw) ys hs) ys hs hw
theorem zue {n : Nat} (h : n < 4096) : IntKind.u64.wrap (n : Int) = n := by
 unfold IntKind.wrap
 simp [IntKind.bits, IntKind.signed]
 omega
theorem zr0 (l : List Tm) (hl : l.length <= 12) (m : Nat) (hm : m < 4096) (f : Fm) (hf : f.forms = true) (hp : za3 f = true) (ha : ∀ t ∈ atF f, t ∈ l) (H : ∀ p ∈ f.parts, FC Tryz.prog 133 [fmD p, .one (tmS l), iD m] [bD (evF p (bv m l))]) : FC Tryz.prog 133 [fmD f, .one (tmS l), iD m] [bD (evF f (bv m l))] := by
 rcases ze1 hf with ⟨h1, h2⟩ | ⟨p, rfl, _⟩ | ⟨o, p, q, ho, rfl, _⟩ | ⟨o, v, p, ho, rfl, _⟩
 ·obtain ⟨o, a, v, ps⟩ := f
  simp only [Fm.op, Fm.parts] at h1 h2
  subst h1
  rcases h2 with rfl | rfl | rfl
  ·rw [ze5]
   simp only [fmD, zc2, Fm.op]
   refine zaj Tryz.call133 Tryz.func133 rfl (by kernel_rfl) (zav (by kernel_rfl)) ?_
   simp -implicitDefEqProofs only [go_sem, Tryz.results133]
  ·rw [ze5]
   simp only [fmD, zc2, Fm.op]
   refine zaj Tryz.call133 Tryz.func133 rfl (by kernel_rfl) (zav (by kernel_rfl)) ?_
   simp -implicitDefEqProofs only [go_sem, Tryz.results133]
  ·have hal : a ∈ l := ha a (by rw [zgb]; simp [Fm.op, Fm.atom])
   obtain ⟨hi, _, hx⟩ := zz2 hal
   have HX := zxv l a
   have hv : evF (.mk 3 a v []) (bv m l) = m.testBit (ixT l a) := by rw [ze5]; rfl
   rw [hx] at HX
   rw [hv]
   generalize ixT l a = i at hi HX
   have hu := zue (show i < 4096 by omega)
   simp only [tmD, zaa a] at HX
   simp only [fmD, zc2, Fm.op]
   refine zaj Tryz.call133 Tryz.func133 rfl (by kernel_rfl) (zav (by kernel_rfl)) ?_
   simp -implicitDefEqProofs only [go_sem, Tryz.results133]
   refine callF (HX) (by simp -implicitDefEqProofs only [go_sem, hu]) ?_
   simp -implicitDefEqProofs only [go_sem, hu]
   exact ⟨(zni m i hm (by omega)).1, congrArg T.bool (zni m i hm (by omega)).2⟩
 ·have HP := H p (by simp [mkF, Fm.parts])
  have hv : evF (mkF 4 [p]) (bv m l) = !(evF p (bv m l)) := by rw [ze5]; rfl
  rw [hv]
  generalize evF p (bv m l) = r at HP ⊢
  simp only [fmD, zac p] at HP
  simp only [fmD]
  rw [show fmC (mkF 4 [p]) = [.int .i64 4, .str [], .sl 2 [], .str [], .sl 5 [fmC p]] from zbw 4 [p], zac p]
  refine zaj Tryz.call133 Tryz.func133 rfl (by kernel_rfl) (zav (by kernel_rfl)) ?_
  simp -implicitDefEqProofs only [go_sem, Tryz.results133]
  refine callF (HP) (by simp -implicitDefEqProofs only [go_sem]) ?_
  simp -implicitDefEqProofs only [go_sem]
 ·have HP := H p (by simp [mkF, Fm.parts])
  have HQ := H q (by simp [mkF, Fm.parts])
  have hv : evF (mkF o [p, q]) (bv m l) = if (o == 5) = true then evF p (bv m l) && evF q (bv m l) else if (o == 6) = true then evF p (bv m l) || evF q (bv m l) else !(evF p (bv m l)) || evF q (bv m l) := by
   rw [ze5]
   rcases ho with rfl | rfl | rfl <;> rfl
  rw [hv]
  generalize evF p (bv m l) = r at HP ⊢
  generalize evF q (bv m l) = r2 at HQ ⊢
  simp only [fmD, zac p, zac q] at HP HQ
  simp only [fmD]
  rw [show fmC (mkF o [p, q]) = [.int .i64 o, .str [], .sl 2 [], .str [], .sl 5 [fmC p, fmC q]] from zbw o [p, q], zac p, zac q]
  rcases ho with rfl | rfl | rfl
  ·cases r
   ·refine zaj Tryz.call133 Tryz.func133 rfl (by kernel_rfl) (zav (by kernel_rfl)) ?_
    simp -implicitDefEqProofs only [go_sem, Tryz.results133]
    refine callF (HP) (by simp -implicitDefEqProofs only [go_sem]) ?_
    simp -implicitDefEqProofs only [go_sem]
   ·refine zaj Tryz.call133 Tryz.func133 rfl (by kernel_rfl) (zav (by kernel_rfl)) ?_
    simp -implicitDefEqProofs only [go_sem, Tryz.results133]
    refine callF (HP) (by simp -implicitDefEqProofs only [go_sem]) ?_
    simp -implicitDefEqProofs only [go_sem]
    refine callF (HQ) (by simp -implicitDefEqProofs only [go_sem]) ?_
    simp -implicitDefEqProofs only [go_sem]
  ·cases r
   ·refine zaj Tryz.call133 Tryz.func133 rfl (by kernel_rfl) (zav (by kernel_rfl)) ?_
    simp -implicitDefEqProofs only [go_sem, Tryz.results133]
    refine callF (HP) (by simp -implicitDefEqProofs only [go_sem]) ?_
    simp -implicitDefEqProofs only [go_sem]
    refine callF (HQ) (by simp -implicitDefEqProofs only [go_sem]) ?_
    simp -implicitDefEqProofs only [go_sem]
    rfl
   ·refine zaj Tryz.call133 Tryz.func133 rfl (by kernel_rfl) (zav (by kernel_rfl)) ?_
    simp -implicitDefEqProofs only [go_sem, Tryz.results133]
    refine callF (HP) (by simp -implicitDefEqProofs only [go_sem]) ?_
    simp -implicitDefEqProofs only [go_sem]
    rfl
  ·cases r
   ·refine zaj Tryz.call133 Tryz.func133 rfl (by kernel_rfl) (zav (by kernel_rfl)) ?_
    simp -implicitDefEqProofs only [go_sem, Tryz.results133]
    refine callF (HP) (by simp -implicitDefEqProofs only [go_sem]) ?_
    simp -implicitDefEqProofs only [go_sem]
    rfl
   ·refine zaj Tryz.call133 Tryz.func133 rfl (by kernel_rfl) (zav (by kernel_rfl)) ?_
    simp -implicitDefEqProofs only [go_sem, Tryz.results133]
    refine callF (HP) (by simp -implicitDefEqProofs only [go_sem]) ?_
    simp -implicitDefEqProofs only [go_sem]
    refine callF (HQ) (by simp -implicitDefEqProofs only [go_sem]) ?_
    simp -implicitDefEqProofs only [go_sem]
    rfl
 ·exfalso
  rw [zcn] at hp
  rcases ho with rfl | rfl <;> simp [Fm.op] at hp
theorem zw4 (l : List Tm) (hl : l.length <= 12) (m : Nat) (hm : m < 4096) : ∀ f : Fm, f.forms = true -> za3 f = true -> (∀ t ∈ atF f, t ∈ l) -> FC Tryz.prog 133 [fmD f, .one (tmS l), iD m] [bD (evF f (bv m l))] :=
 za7 fun o a v ps ih hf hp ha => zr0 l hl m hm (.mk o a v ps) hf hp ha fun p hm => ih p hm (zgg hf p hm) (zdz hp p hm) fun t ht => ha t (zp2 hf hm ht)
theorem zsh (f : Fm) (hw : f.wt <= 1048576) (hf : f.forms = true) (hp : za3 f = true) : FC Tryz.prog 80 [fmD f] [bD (zxt f).1, bD (zxt f).2] := by
 have hfn := zcd f
 have hfl := zsp f
 have HD := qee f hw [] (by simp only [List.length_nil]; omega)
 have hall := fun t => qgw (f := f) (t := t)
 have hv : zxt f = if (qle f).length <= 12 then (dec (zqb f), true) else (false, false) := by unfold zxt; rw [qlo]
 rw [hv]
 rw [show (atF f).foldl zke [] = qle f from rfl, show tmS [] = .sl 2 [] from rfl] at HD
 generalize qle f = L at HD hall ⊢
 have HT := fun (m : Nat) (hm : m < 4096) (hl : L.length <= 12) => zw4 L hl m hm f hf hp hall
 have hbits := zo6 hall
 simp only [fmD, zac f] at HD HT ⊢
 by_cases hl : L.length <= 12
 ·have h12 : ((12 : Int) < (L.length : Int)) = False := by simp; omega
  have hle : 2 ^ L.length <= 2 ^ 12 := Nat.pow_le_pow_right (by omega) hl
  have hu := zue (show L.length < 4096 by omega)
  have hpow : IntKind.i64.wrap (1 * 2 ^ min L.length 64) = ((2 ^ L.length : Nat) : Int) := by
   rw [show min L.length 64 = L.length by omega, Int.one_mul, show (2 : Int) ^ L.length = ((2 ^ L.length : Nat) : Int) by simp]
   generalize 2 ^ L.length = N at hle ⊢
   exact zbc (by omega) (by omega)
  rw [if_pos hl]
  refine zb8 Tryz.call80 Tryz.func80 rfl (by kernel_rfl) (zav (by kernel_rfl)) ?_
  simp -implicitDefEqProofs only [go_sem, Tryz.results80]
  refine za2 (by simp -implicitDefEqProofs only [go_sem]) ?_
  simp -implicitDefEqProofs only [go_sem]
  refine frzO 192 rfl rfl ?_
  simp -implicitDefEqProofs only [go_sem]
  refine qdl (HD) (by simp -implicitDefEqProofs only [go_sem]) ?_
  simp -implicitDefEqProofs only [go_sem]
  simp -implicitDefEqProofs only [go_sem, h12]
  have hpow' := hpow
  generalize 2 ^ L.length = N at hle hbits hpow hpow'
  refine zad (fun k : Nat => hd [(1, .one (.bx 1 0)), (4, .one (.rn (tmS L))), (5, vI k)] [(1, [.t (.int .i64 f.op), .t (.str f.atom.name), .rn (tmS f.atom.args), .t (.str f.var), .rn (fmS f.parts)])] []) (fun k => k <= N /\ ∀ m, m < k -> evF f (bv m L) = true) (fun k => N - k) 0 (zab ?_) ⟨Nat.zero_le _, fun m h => by omega⟩ ?_
  ·simp -implicitDefEqProofs only [go_sem]
  ·intro k ⟨hk, hr⟩
   by_cases hlt : k < N
   ·have HC := HT k (by omega) hl
    simp -implicitDefEqProofs only [go_sem, hlt, hu, hpow]
    refine callF (HC) (by simp -implicitDefEqProofs only [go_sem]) ?_
    simp -implicitDefEqProofs only [go_sem]
    refine ⟨fun h => ?_, fun h => ?_⟩
    ·have : dec (zqb f) = false := by
      rw [<- Bool.not_eq_true, zew, <- hbits]
      intro h2
      have h3 : evF f (bv k L) = true := h2 k hlt
      rw [h3] at h
      simp at h
     rw [this]
     exact Or.inl rfl
    ·refine ⟨k + 1, ⟨hlt, fun m hm => ?_⟩, by omega, zab ?_⟩
     ·by_cases e : m = k
      ·subst e; simpa using h
      ·exact hr m (by omega)
     ·simp -implicitDefEqProofs only [go_sem]
      rw [zak (by omega)]
   ·simp -implicitDefEqProofs only [go_sem, hlt, hu, hpow]
    have : dec (zqb f) = true := zew.2 (hbits.1 fun m hm => hr m (by omega))
    rw [this]
    exact Or.inl rfl
 ·have h12 : ((12 : Int) < (L.length : Int)) = True := by simp; omega
  rw [if_neg hl]
  refine zb8 Tryz.call80 Tryz.func80 rfl (by kernel_rfl) (zav (by kernel_rfl)) ?_
  simp -implicitDefEqProofs only [go_sem, Tryz.results80]
  refine za2 (by simp -implicitDefEqProofs only [go_sem]) ?_
  simp -implicitDefEqProofs only [go_sem]
  refine frzO 192 rfl rfl ?_
  simp -implicitDefEqProofs only [go_sem]
  refine qdl (HD) (by simp -implicitDefEqProofs only [go_sem, h12]) ?_
  simp -implicitDefEqProofs only [go_sem, h12]
end Go.Proofs.YtemnhgmgeijkcaaGreat
namespace Go.Proofs.YtemnhgmgeijkcaaGreat
set_option linter.unusedSimpArgs false
set_option linter.unusedVariables false
set_option linter.unusedSectionVars false
set_option maxRecDepth 4000
open Go.RowKit
theorem zll {o : Int} (ho : o = 5 \/ o = 6) {z : Fm} (hz : za3 z = true) : ∀ {L : List Fm}, (∀ x ∈ L, za3 x = true) -> za3 (zc4 o L z) = true
 | [], _ => hz
 | [x], h => h x (by simp)
 | x :: y :: xs, h => by
  rw [zd9 o x (by simp) z, zcn]
  have h1 := h x (by simp)
  have h2 := zll ho hz (L := y :: xs) fun w hw => h w (List.mem_cons_of_mem _ hw)
  show (!((o == 8) || (o == 9)) && [x, zc4 o (y :: xs) z].all za3) = true
  rcases ho with rfl | rfl <;> simp [h1, h2]
end Go.Proofs.YtemnhgmgeijkcaaGreat
namespace Go.Proofs.YtemnhgmgeijkcaaGreat
set_option linter.unusedSimpArgs false
set_option linter.unusedVariables false
set_option linter.unusedSectionVars false
set_option maxRecDepth 4000
open Go.RowKit
noncomputable def hpR (f : Fm) (tss : List (List Tm)) : Bool × Bool := if hdB f tss = true then zxt (zkn f tss) else (false, false)
theorem zk2 {f : Fm} {tss : List (List Tm)} (h : hdB f tss = true) : za3 (zkn f tss) = true /\ (zkn f tss).forms = true /\ (zkn f tss).wt <= 20800 := by
 unfold hdB qeu at h
 rw [Bool.and_eq_true, Bool.and_eq_true] at h
 obtain ⟨⟨h1, h2⟩, h3⟩ := h
 obtain ⟨_, _, hpl, _⟩ := zhl h1
 refine ⟨?_, zfh h3, zja h3⟩
 have h0 : za3 (mkF 2 []) = true := by
  rw [zcn]
  show (!((2 : Int) == 8 || (2 : Int) == 9) && [].all za3) = true
  rfl
 refine zll (Or.inr rfl) h0 fun x hx => ?_
 obtain ⟨ts, _, rfl⟩ := List.mem_map.1 hx
 exact zi7 _ _ hpl
theorem zvw (f : Fm) (hw : f.wt <= 1048576) (tss : List (List Tm)) (ht : ziq tss <= 1048576) : FC Tryz.prog 24 [fmD f, .one (ze4 tss)] [bD (hpR f tss).1, bD (hpR f tss).2] := by
 have HD := qgg f hw tss ht
 have hv : hpR f tss = if hdB f tss = true then zxt (zkn f tss) else (false, false) := rfl
 unfold hdR at HD
 rw [hv]
 cases h : hdB f tss
 ·rw [h, if_neg (by simp)] at HD
  rw [if_neg (by simp)]
  simp only [fmD, zac f, zbw, List.map_nil] at HD ⊢
  refine zaj Tryz.call24 Tryz.func24 rfl (by kernel_rfl) (zav (by kernel_rfl)) ?_
  simp -implicitDefEqProofs only [go_sem, Tryz.results24]
  refine callF (HD) (by simp -implicitDefEqProofs only [go_sem]) ?_
  simp -implicitDefEqProofs only [go_sem]
 ·obtain ⟨h1, h2, h3⟩ := zk2 h
  rw [h, if_pos rfl] at HD
  rw [if_pos rfl]
  have HA := zpp (zkn f tss) (by omega) h2 h1
  generalize zkn f tss = R at HD HA ⊢
  generalize zxt R = A at HA ⊢
  simp only [fmD, zac f, zac R] at HD HA ⊢
  refine zaj Tryz.call24 Tryz.func24 rfl (by kernel_rfl) (zav (by kernel_rfl)) ?_
  simp -implicitDefEqProofs only [go_sem, Tryz.results24]
  refine callF (HD) (by simp -implicitDefEqProofs only [go_sem]) ?_
  simp -implicitDefEqProofs only [go_sem]
  refine callF (HA) (by simp -implicitDefEqProofs only [go_sem]) ?_
  simp -implicitDefEqProofs only [go_sem]
theorem zt1 (f : Fm) (hw : f.wt <= 1048576) (tss : List (List Tm)) (ht : ziq tss <= 1048576) : FC Tryz.prog 23 [fmD f, .one (ze4 tss)] [bD (hpR f tss).1, bD (hpR f tss).2] := by
 have HD := ziv f hw tss ht
 have hv : hpR f tss = if hdB f tss = true then zxt (zkn f tss) else (false, false) := rfl
 unfold hdR at HD
 rw [hv]
 cases h : hdB f tss
 ·rw [h, if_neg (by simp)] at HD
  rw [if_neg (by simp)]
  simp only [fmD, zac f, zbw, List.map_nil] at HD ⊢
  refine zaj Tryz.call23 Tryz.func23 rfl (by kernel_rfl) (zav (by kernel_rfl)) ?_
  simp -implicitDefEqProofs only [go_sem, Tryz.results23]
  refine callF (HD) (by simp -implicitDefEqProofs only [go_sem]) ?_
  simp -implicitDefEqProofs only [go_sem]
 ·obtain ⟨h1, h2, h3⟩ := zk2 h
  rw [h, if_pos rfl] at HD
  rw [if_pos rfl]
  have HA := zsh (zkn f tss) (by omega) h2 h1
  generalize zkn f tss = R at HD HA ⊢
  generalize zxt R = A at HA ⊢
  simp only [fmD, zac f, zac R] at HD HA ⊢
  refine zaj Tryz.call23 Tryz.func23 rfl (by kernel_rfl) (zav (by kernel_rfl)) ?_
  simp -implicitDefEqProofs only [go_sem, Tryz.results23]
  refine callF (HD) (by simp -implicitDefEqProofs only [go_sem]) ?_
  simp -implicitDefEqProofs only [go_sem]
  refine callF (HA) (by simp -implicitDefEqProofs only [go_sem]) ?_
  simp -implicitDefEqProofs only [go_sem]
end Go.Proofs.YtemnhgmgeijkcaaGreat
