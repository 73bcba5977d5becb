/-
  The walk over plain data, and contracts of functions of the program and of its laws.
  Conditions: those that each theorem names.
-/
import Derived.Test.YtemnhgmgeijkcaaGreatQ6
import Derived.Test.YtemnhgmgeijkcaaGreatQ5
import Derived.RangeFuncNested
import Derived.RangeFuncBound
import Derived.RangeFuncCalls
import Derived.TacticsInMore
import Derived.LoopNIn
import Derived.LoopIn
import Derived.MapKept
namespace Go.Proofs.YtemnhgmgeijkcaaGreat
set_option linter.unusedSimpArgs false
set_option linter.unusedVariables false
set_option linter.unusedSectionVars false
set_option maxRecDepth 4000
open Go.RowKit Go.Sort
theorem zwm {P : Program} {f : FuncId} (hc : zaz P f) (hS : ∀ (blk off cap : Nat) (zs : List (List UInt8)) (w : World), Holds encStr w blk off zs.toArray -> zs.length <= 9223372036854775807 -> zs.length <= cap →
   Calls P f #[.slice (some ⟨blk, off, none⟩) zs.length cap] w fun e w' => e = .returned (.slice (some ⟨blk, off, none⟩) (Lib.compact zs).length cap) /\ ∃ q, w' = putRow encStr (Sort.ahead w q) blk off (Lib.compact zs ++ List.replicate (zs.length - (Lib.compact zs).length) []).toArray)
  (hN : ∀ (a : Option Addr) (cap : Nat) (w : World), Calls P f #[.slice a 0 cap] w fun e w' => e = .returned (.slice a 0 cap) /\ w' = w) (hsub : ∀ zs : List (List UInt8), (Lib.compact zs).length <= zs.length /\ ∀ s ∈ Lib.compact zs, s ∈ zs) (ss : List Str) : GC P f [(true, .one (zb9 ss))] [.one (zb9 (Lib.compact ss))] := by
 refine ⟨hc, fun w vs fp tp hv hn => ?_⟩
 obtain ⟨v, _, f1, _, t1, _, rfl, rfl, rfl, ⟨hg, _⟩, hv⟩ := hv
 obtain ⟨rfl, rfl, rfl⟩ := hv
 unfold zaw at hg
 obtain ⟨ao, cap, rfl, q1, q2, q3⟩ := hg
 rw [List.length_map] at q1 ⊢
 rcases q3 with ⟨rfl, rfl, q3, rfl⟩ | ⟨b, cells, ty, fps, rfl, rfl, q3, q4, q5⟩
 ·have hs : ss = [] := List.map_eq_nil_iff.1 q3
  subst hs
  refine (hN none 0 w).mono ?_
  rintro e w' ⟨rfl, rfl⟩
  refine ⟨[_], [], [], rfl, ⟨_, [], [], [], [], [], rfl, rfl, rfl, ⟨?_, rfl⟩, rfl, rfl, rfl⟩, List.nodup_nil, by simp, Bk.refl _ _⟩
  unfold zaw
  exact ⟨none, 0, rfl, by simp [Lib.compact, Lib.compactUpTo], by simp, Or.inl ⟨rfl, rfl, by simp [Lib.compact, Lib.compactUpTo], rfl⟩⟩
 ·obtain ⟨_, vs, k1, k2, k3⟩ := q5.vals
  rw [zfl] at k3
  obtain ⟨rfl, rfl, k4⟩ := zmz k3
  have hsz : ss.length <= cells.size := by omega
  have ht : cells.toList.take ss.length = ss.map encStr := by
   apply List.ext_getElem?
   intro j
   by_cases hj : j < ss.length
   ·rw [List.getElem?_take_of_lt hj, Array.getElem?_toList]
    have := k2 j _ (List.getElem?_eq_getElem (by simpa using hj))
    rw [Nat.zero_add] at this
    rw [this, List.getElem?_eq_getElem (by simpa using hj)]
   ·rw [List.getElem?_take_eq_none (by omega), List.getElem?_eq_none (by simp; omega)]
  have hM : (9223372036854775807 : Nat) = zeq := rfl
  refine (hS b 0 cap ss w (holds_of_block q3 ht) (by omega) q1).mono ?_
  rintro e w' ⟨rfl, q, rfl⟩
  obtain ⟨hsl, hsm⟩ := hsub ss
  have hw : putRow encStr (Sort.ahead w q) b 0 (Lib.compact ss ++ List.replicate (ss.length - (Lib.compact ss).length) []).toArray = grow (putRow encStr (Sort.ahead w q) b 0 (Lib.compact ss ++ List.replicate (ss.length - (Lib.compact ss).length) []).toArray) #[] := by unfold grow; simp only [Array.append_empty]
  rw [hw]
  have hgr := grownBy_sorted (w := w) (g := b) (n := q) (os := #[]) (Lib.compact ss ++ List.replicate (ss.length - (Lib.compact ss).length) []).toArray
  have hlen : (Lib.compact ss ++ List.replicate (ss.length - (Lib.compact ss).length) ([] : Str)).length = ss.length := by simp; omega
  have htk := take_putCells cells (Lib.compact ss ++ List.replicate (ss.length - (Lib.compact ss).length) []) (by omega)
  refine ⟨[_], [b], [b], rfl, ⟨_, [], [b], [], [b], [], rfl, rfl, rfl, ⟨?_, rfl⟩, rfl, rfl, rfl⟩, by simp, fun x hx => Or.inl (by simpa using hx), ⟨hgr.os, hgr.tape, hgr.output, hgr.size, fun k hk => hgr.block k hk.1 fun e => hk.2 (by cases e; simp)⟩⟩
  unfold zaw
  refine ⟨_, cap, by rw [List.length_map], by rw [List.length_map]; omega, q2, Or.inr ⟨b, _, ty, [], rfl, rfl, heap_sorted _ q3, by simp [putCells, q4], ?_⟩⟩
  refine zag.of_vals (zqa _) (by rw [zfl]; exact zm4 fun s hs => k4 s (hsm s hs)) fun j u hu => ?_
  have hu' : ((Lib.compact ss ++ List.replicate (ss.length - (Lib.compact ss).length) ([] : Str)).map encStr)[j]? = some u := by
   rw [List.map_append]
   have hj : j < ((Lib.compact ss).map encStr).length := (List.getElem?_eq_some_iff.1 hu).1
   rw [List.getElem?_append_left hj]; exact hu
  rw [<- htk, List.getElem?_take] at hu'
  split at hu'
  ·simpa using hu'
  ·cases hu'
theorem zr8 (zs : List (List UInt8)) : (Lib.compact zs).length <= zs.length /\ ∀ s ∈ Lib.compact zs, s ∈ zs := by
 unfold Lib.compact Lib.compactUpTo
 refine ⟨?_, fun s hs => ?_⟩
 ·rw [List.length_map]
  have := List.length_filter_le (Lib.keeps zs.toArray) (List.range zs.length)
  simpa using this
 ·obtain ⟨i, hi, rfl⟩ := List.mem_map.1 hs
  have hi : i < zs.length := by simpa using List.mem_range.1 (List.mem_filter.1 hi).1
  simp [hi]
theorem zqs (ss : List Str) : GC Tryz.prog 119 [(true, .one (zb9 ss))] [.one (zb9 (Lib.compact ss))] :=
 zwm Tryz.call119 (fun blk off cap zs w h1 h2 h3 => Any.slices_Compact_string Tryz.lays194 blk off cap zs w h1 h2 h3) (fun a cap w => Any.slices_Compact_string_empty Tryz.lays194 a cap w) zr8 ss
end Go.Proofs.YtemnhgmgeijkcaaGreat
namespace Go.Proofs.YtemnhgmgeijkcaaGreat
set_option linter.unusedSimpArgs false
set_option linter.unusedVariables false
set_option linter.unusedSectionVars false
set_option maxRecDepth 4000
open Go.RowKit
theorem zek {f : Fm} {x : Fm} (h : x ∈ f.parts) : x.nodes < f.nodes := by
 have := f.nodes_eq
 obtain ⟨i, hi, rfl⟩ := List.getElem_of_mem h
 have := zbk Fm.nodes f.parts _ (List.getElem_mem hi)
 omega
def exN (f : Fm) : List Str × Fm := if h : f.op = 9 /\ 0 < f.parts.length then (f.var :: (exN (f.parts[0]'h.2)).1, (exN (f.parts[0]'h.2)).2) else ([], f)
termination_by f.nodes
decreasing_by all_goals exact zek (List.getElem_mem h.2)
theorem qct {f : Fm} (h : (f.op == 9) = false) : exN f = ([], f) := by rw [exN, dif_neg]; rintro ⟨h1, _⟩; rw [h1] at h; exact absurd h (by decide)
theorem zvt {f : Fm} (h : (f.op == 9) = true) (hf : f.forms = true) : ∃ p, f.parts = [p] /\ p.forms = true := by
 rw [Fm.forms_eq, Bool.and_eq_true] at hf
 have h9 : f.op = 9 := by simpa using h
 have h1 := hf.1
 unfold Fm.here at h1
 rw [h9] at h1
 simp only [show ((9 : Int) == 1 || (9 : Int) == 2) = false by decide, show ((9 : Int) == 3) = false by decide, show ((9 : Int) == 4) = false by decide, show zlf 9 = false by decide, show isQ 9 = true by decide, if_true, Bool.false_eq_true, if_false, Bool.and_eq_true, decide_eq_true_eq] at h1
 obtain ⟨p, hp⟩ := List.length_eq_one_iff.1 h1.1.1
 exact ⟨p, hp, List.all_eq_true.1 hf.2 p (by rw [hp]; simp)⟩
theorem qag {f p : Fm} (h : (f.op == 9) = true) (hp : f.parts = [p]) : exN f = (f.var :: (exN p).1, (exN p).2) := by
 have h9 : f.op = 9 := by simpa using h
 have hl : 0 < f.parts.length := by rw [hp]; simp
 rw [exN, dif_pos ⟨h9, hl⟩]
 have : f.parts[0]'hl = p := by simp [hp]
 rw [this]
theorem zfs : ∀ f : Fm, (exN f).1.length <= f.nodes := za7 fun o a v ps ih => by
 by_cases h : ((Fm.mk o a v ps).op = 9 /\ 0 < (Fm.mk o a v ps).parts.length)
 ·rw [exN, dif_pos h]
  have hm := List.getElem_mem h.2
  have h1 := ih _ hm
  have h2 := zek hm
  simp only [List.length_cons]
  omega
 ·rw [exN, dif_neg h]; exact Nat.zero_le _
theorem qaz : ∀ f : Fm, (exN f).2.wt <= f.wt := za7 fun o a v ps ih => by
 by_cases h : ((Fm.mk o a v ps).op = 9 /\ 0 < (Fm.mk o a v ps).parts.length)
 ·rw [exN, dif_pos h]
  have hm := List.getElem_mem h.2
  exact Nat.le_trans (ih _ hm) (zbx hm)
 ·rw [exN, dif_neg h]; exact Nat.le_refl _
theorem qbr : ∀ f : Fm, f.forms = true -> (exN f).2.forms = true := za7 fun o a v ps ih hf => by
 by_cases h : ((Fm.mk o a v ps).op = 9 /\ 0 < (Fm.mk o a v ps).parts.length)
 ·rw [exN, dif_pos h]
  have hm := List.getElem_mem h.2
  rw [Fm.forms_eq, Bool.and_eq_true] at hf
  exact ih _ hm (List.all_eq_true.1 hf.2 _ hm)
 ·rw [exN, dif_neg h]; exact hf
theorem ztq (f : Fm) (hf : f.forms = true) (hw : f.wt <= 1048576) : XC Tryz.prog 65 [(false, fmD f)] [(true, .one (zb9 (exN f).1)), (false, fmD (exN f).2)] := by
 have hN := zcd f
 have hL := zfs f
 simp only [fmD, zac]
 refine XC_of Tryz.call65 Tryz.func65 rfl (by kernel_rfl) (by simp only [List.length_cons, List.length_nil, Tryz.ntmps65]; omega) (by simp [zbo, T.isPin]) ?_
 simp -implicitDefEqProofs only [go_sem, Tryz.results65]
 refine za2 (by simp -implicitDefEqProofs only [go_sem]) ?_
 simp -implicitDefEqProofs only [go_sem]
 refine zad (fun x : List Str × Fm => hd [(1, .one (.bx 1 0)), (3, .one (.bx 3 0)), (4, .one (.ow 160 0))] [(1, [.t (.int .i64 x.2.op), .t (.str x.2.atom.name), .rn (tmS x.2.atom.args), .t (.str x.2.var), .rn (fmS x.2.parts)]), (3, [.any, .any, .any, .any, .any])] [(160, ⟨true, 1, x.1.map fun s => [.str s], 0, true⟩)]) (fun x => x.2.forms = true /\ x.1 ++ (exN x.2).1 = (exN f).1 /\ (exN x.2).2 = (exN f).2) (fun x => x.2.nodes) ([], f) (zab ?_) ⟨hf, rfl, rfl⟩ ?_
 ·simp -implicitDefEqProofs only [go_sem]
 ·rintro ⟨ns, g⟩ ⟨h1, h2, h3⟩
  simp only at h1 h2 h3
  have hG := zfs g
  cases h9 : g.op == 9
  ·rw [qct h9] at h2 h3
   rw [List.append_nil] at h2
   simp only at h2 h3
   subst h2 h3
   simp -implicitDefEqProofs only [go_sem, h9]
   refine drawn (by kernel_rfl) ?_
   simp -implicitDefEqProofs only [go_sem]
   kernel_rfl
  ·obtain ⟨p, hp, hpf⟩ := zvt h9 h1
   rw [qag h9 hp] at h2 h3
   have hl : ns.length <= 4294967295 := by
    have := congrArg List.length h2
    simp only [List.length_append, List.length_cons] at this
    omega
   have hp0 : g.parts.length = 1 := by rw [hp]; rfl
   simp -implicitDefEqProofs only [go_sem, h9]
   refine za2 (by simp -implicitDefEqProofs only [go_sem]) ?_
   simp -implicitDefEqProofs only [go_sem]
   refine apD true (by simp -implicitDefEqProofs only [go_sem, hl, ne_eq, List.length_map]) ?_
   simp -implicitDefEqProofs only [go_sem, hl, ne_eq, List.length_map]
   have e0 : (List.map fmC g.parts).getD 0 [] = fmC p := by rw [hp]; rfl
   simp -implicitDefEqProofs only [go_sem, hp0, e0, zac p]
   refine ⟨(ns ++ [g.var], p), ⟨hpf, by rw [List.append_assoc]; exact h2, h3⟩, zek (by rw [hp]; simp), zab ?_⟩
   simp -implicitDefEqProofs only [go_sem]
   simp
theorem zqn (f : Fm) (hf : f.forms = true) (hw : f.wt <= 1048576) : XC Tryz.prog 111 [(false, fmD f)] [(true, .one (zb9 (exN f).1)), (false, fmD (exN f).2)] := by
 have hN := zcd f
 have hL := zfs f
 simp only [fmD, zac]
 refine XC_of Tryz.call111 Tryz.func111 rfl (by kernel_rfl) (by simp only [List.length_cons, List.length_nil, Tryz.ntmps111]; omega) (by simp [zbo, T.isPin]) ?_
 simp -implicitDefEqProofs only [go_sem, Tryz.results111]
 refine za2 (by simp -implicitDefEqProofs only [go_sem]) ?_
 simp -implicitDefEqProofs only [go_sem]
 refine zad (fun x : List Str × Fm => hd [(1, .one (.bx 1 0)), (3, .one (.bx 3 0)), (4, .one (.ow 160 0))] [(1, [.t (.int .i64 x.2.op), .t (.str x.2.atom.name), .rn (tmS x.2.atom.args), .t (.str x.2.var), .rn (fmS x.2.parts)]), (3, [.any, .any, .any, .any, .any])] [(160, ⟨true, 1, x.1.map fun s => [.str s], 0, true⟩)]) (fun x => x.2.forms = true /\ x.1 ++ (exN x.2).1 = (exN f).1 /\ (exN x.2).2 = (exN f).2) (fun x => x.2.nodes) ([], f) (zab ?_) ⟨hf, rfl, rfl⟩ ?_
 ·simp -implicitDefEqProofs only [go_sem]
 ·rintro ⟨ns, g⟩ ⟨h1, h2, h3⟩
  simp only at h1 h2 h3
  have hG := zfs g
  cases h9 : g.op == 9
  ·rw [qct h9] at h2 h3
   rw [List.append_nil] at h2
   simp only at h2 h3
   subst h2 h3
   simp -implicitDefEqProofs only [go_sem, h9]
   refine drawn (by kernel_rfl) ?_
   simp -implicitDefEqProofs only [go_sem]
   kernel_rfl
  ·obtain ⟨p, hp, hpf⟩ := zvt h9 h1
   rw [qag h9 hp] at h2 h3
   have hl : ns.length <= 4294967295 := by
    have := congrArg List.length h2
    simp only [List.length_append, List.length_cons] at this
    omega
   have hp0 : g.parts.length = 1 := by rw [hp]; rfl
   simp -implicitDefEqProofs only [go_sem, h9]
   refine za2 (by simp -implicitDefEqProofs only [go_sem]) ?_
   simp -implicitDefEqProofs only [go_sem]
   refine apD true (by simp -implicitDefEqProofs only [go_sem, hl, ne_eq, List.length_map]) ?_
   simp -implicitDefEqProofs only [go_sem, hl, ne_eq, List.length_map]
   have e0 : (List.map fmC g.parts).getD 0 [] = fmC p := by rw [hp]; rfl
   simp -implicitDefEqProofs only [go_sem, hp0, e0, zac p]
   refine ⟨(ns ++ [g.var], p), ⟨hpf, by rw [List.append_assoc]; exact h2, h3⟩, zek (by rw [hp]; simp), zab ?_⟩
   simp -implicitDefEqProofs only [go_sem]
   simp
def za3 : Fm -> Bool := Fm.fold fun o _ _ _ rs => !(o == 8 || o == 9) && rs.all id
theorem zcn (f : Fm) : za3 f = (!(f.op == 8 || f.op == 9) && f.parts.all za3) := by
 unfold za3
 rw [Fm.fold_eq]
 simp only [List.all_map]
 rfl
theorem zy5 (f : Fm) (H : FC Tryz.prog 121 [fmD f, .one (zgv [8, 9])] [bD (!za3 f)]) : FC Tryz.prog 187 [fmD f, .one (.ptr [zgv [8, 9]])] [bD (!za3 f)] := by
 simp only [fmD, zac] at H ⊢
 refine zaj Tryz.call187 Tryz.func187 rfl (by kernel_rfl) (zav (by kernel_rfl)) ?_
 simp -implicitDefEqProofs only [go_sem, Tryz.results187]
 refine callF (H) (by simp -implicitDefEqProofs only [go_sem]) ?_
 simp -implicitDefEqProofs only [go_sem]
theorem qim (f : Fm) (H : ∀ x ∈ f.parts, FC Tryz.prog 121 [fmD x, .one (zgv [8, 9])] [bD (!za3 x)]) : FC Tryz.prog 121 [fmD f, .one (zgv [8, 9])] [bD (!za3 f)] := by
 have HC := zat f.parts (fun x => !za3 x) 187 [.ptr [zgv [8, 9]]] fun x hx => zy5 x (H x hx)
 have h9 : ([8, 9] : List Int).contains f.op = (f.op == 8 || f.op == 9) := by simp only [List.contains, List.elem]; cases h : f.op == 8 <;> cases h2 : f.op == 9 <;> rfl
 have hv := zcn f
 simp only [fmD, zac]
 refine zaj Tryz.call121 Tryz.func121 rfl (by kernel_rfl) (zav (by kernel_rfl)) ?_
 simp -implicitDefEqProofs only [go_sem, Tryz.results121]
 refine callF (zmq [8, 9] f.op) (by simp -implicitDefEqProofs only [go_sem, h9]) ?_
 simp -implicitDefEqProofs only [go_sem, h9]
 refine ⟨fun h => ?_, fun h => ?_⟩
 ·refine callF (HC) (by simp -implicitDefEqProofs only [go_sem]) ?_
  simp -implicitDefEqProofs only [go_sem]
  rw [hv, h]
  simp [List.any_eq_not_all_not]
 ·rw [hv, h]; rfl
theorem ql7 : ∀ f : Fm, FC Tryz.prog 121 [fmD f, .one (zgv [8, 9])] [bD (!za3 f)] := za7 fun o a v ps ih => qim (.mk o a v ps) ih
theorem zr9 (f : Fm) (hw : f.wt <= 1048576) (H : ∀ x ∈ f.parts, FC Tryz.prog 172 [fmD x] [bD (za3 x)]) : FC Tryz.prog 172 [fmD f] [bD (za3 f)] := by
 have hv := zcn f
 have hW := f.wt_eq
 simp only [fmD, zac]
 refine zaj Tryz.call172 Tryz.func172 rfl (by kernel_rfl) (zav (by kernel_rfl)) ?_
 simp -implicitDefEqProofs only [go_sem, Tryz.results172]
 cases h8 : f.op == 8
 ·cases h9 : f.op == 9
  ·rw [h8, h9] at hv
   simp only [Bool.or_self, Bool.not_false, Bool.true_and] at hv
   simp -implicitDefEqProofs only [go_sem, h8, h9]
   refine zad (fun k : Nat => hd [(1, .one (.bx 1 0)), (3, vI k)] [(1, [.t (.int .i64 f.op), .t (.str f.atom.name), .t (tmS f.atom.args), .t (.str f.var), .t (fmS f.parts)])] []) (fun k => k <= f.parts.length /\ (f.parts.take k).all za3 = true) (fun k => f.parts.length - k) 0 (zab ?_) ⟨Nat.zero_le _, rfl⟩ ?_
   ·simp -implicitDefEqProofs only [go_sem]
   ·rintro k ⟨hk, hT⟩
    by_cases hlt : k < f.parts.length
    ·have HC := H f.parts[k] (List.getElem_mem hlt)
     simp only [fmD, zac f.parts[k]] at HC
     simp -implicitDefEqProofs only [go_sem, zai, hlt, zac f.parts[k]]
     refine callF (HC) (by simp -implicitDefEqProofs only [go_sem]) ?_
     simp -implicitDefEqProofs only [go_sem]
     refine ⟨fun h => ?_, fun h => ?_⟩
     ·have hn : f.parts.all za3 = false := by
       rw [List.all_eq_false]
       exact ⟨_, List.getElem_mem hlt, by simpa using h⟩
      rw [hv, hn]
     ·refine ⟨k + 1, ⟨hlt, ?_⟩, by omega, zab ?_⟩
      ·rw [List.take_succ_eq_append_getElem hlt, List.all_append, hT]
       simpa using h
      ·simp -implicitDefEqProofs only [go_sem]
       rw [zak (by omega)]
    ·simp -implicitDefEqProofs only [go_sem, hlt]
     rw [List.take_of_length_le (by omega)] at hT
     rw [hv, hT]
  ·simp -implicitDefEqProofs only [go_sem, h8, h9]
   rw [hv, h8, h9]; rfl
 ·simp -implicitDefEqProofs only [go_sem, h8]
  rw [hv, h8]; rfl
theorem zwb : ∀ f : Fm, f.wt <= 1048576 -> FC Tryz.prog 172 [fmD f] [bD (za3 f)] := za7 fun o a v ps ih hw => zr9 (.mk o a v ps) hw fun x hx => ih x hx (Nat.le_trans (zbx (a := .mk o a v ps) hx) hw)
end Go.Proofs.YtemnhgmgeijkcaaGreat
namespace Go.Proofs.YtemnhgmgeijkcaaGreat
set_option linter.unusedSimpArgs false
set_option linter.unusedVariables false
set_option linter.unusedSectionVars false
set_option maxRecDepth 4000
open Go.RowKit
theorem zxh (n : Str) (t : Tm) (x : Str) : FC Tryz.prog 239 [.agg [sbS [(n, t)]], sD x] [iD (if (n == x) = true then 0 else -1)] := by
 have hS : sbS [(n, t)] = .sl 3 [[.str n, .str t.name, .sl 2 (t.args.map tmC)]] := by unfold sbS; rw [List.map_singleton, zt6]
 rw [hS]
 refine zaj Tryz.call239 Tryz.func239 rfl (by kernel_rfl) (zav (by kernel_rfl)) ?_
 simp -implicitDefEqProofs only [go_sem, Tryz.results239]
 refine zad (fun k : Nat => hd [(1, vT (.str x)), (2, .one (.bx 2 0)), (5, vI k)] [(2, [.t (.sl 3 [[.str n, .str t.name, .sl 2 (t.args.map tmC)]])])] []) (fun k => k = 0 \/ (k = 1 /\ (n == x) = false)) (fun k => 1 - k) 0 (zab ?_) (Or.inl rfl) ?_
 ·simp -implicitDefEqProofs only [go_sem]
 ·rintro k (rfl | ⟨rfl, hn⟩)
  ·cases hn : n == x
   ·simp -implicitDefEqProofs only [go_sem, hn]
    refine ⟨1, Or.inr rfl, by decide, zab ?_⟩
    have hz : IntKind.i64.wrap 1 = 1 := by decide
    simp -implicitDefEqProofs only [go_sem, hz]
   ·simp -implicitDefEqProofs only [go_sem, hn]
  ·simp -implicitDefEqProofs only [go_sem, hn]
theorem qck (n : Str) (t : Tm) (ht : t.wt <= 1048576) (hn : (t.name == n) = false) : FC Tryz.prog 176 [.agg [sbS []], sD n, tmD t] [.agg [sbS [(n, t)]]] := by
 have hS : sbS [(n, t)] = .sl 3 [[.str n, .str t.name, .sl 2 (t.args.map tmC)]] := by unfold sbS; rw [List.map_singleton, zt6]
 have hS0 : sbS [] = .sl 3 [] := rfl
 have HK := zse t ht
 rw [hS, hS0]
 simp only [tmD, zaa t] at HK ⊢
 refine zb8 Tryz.call176 Tryz.func176 rfl (by kernel_rfl) (zav (by kernel_rfl)) ?_
 simp -implicitDefEqProofs only [go_sem, Tryz.results176, hn]
 refine zad (fun k : Nat => hd [(1, vT (.str n)), (3, .one (.bx 3 0)), (5, .one (.bx 5 0)), (6, .one (.bx 6 0)), (7, vI (0 : Nat))] [(3, [.rn (.sl 3 [])]), (5, [.t (.str t.name), .rn (.sl 2 (t.args.map tmC))]), (6, [.nl 3])] []) (fun k => k = 0) (fun k => 0) 0 (zab ?_) rfl ?_
 ·simp -implicitDefEqProofs only [go_sem]
 ·rintro k rfl
  simp -implicitDefEqProofs only [go_sem]
  refine za2 (by simp -implicitDefEqProofs only [go_sem]) ?_
  simp -implicitDefEqProofs only [go_sem]
  refine apD true (by simp -implicitDefEqProofs only [go_sem, ne_eq]) ?_
  simp -implicitDefEqProofs only [go_sem, ne_eq]
  refine callF (HK) (by simp -implicitDefEqProofs only [go_sem]) ?_
  simp -implicitDefEqProofs only [go_sem]
  refine za2 (by simp -implicitDefEqProofs only [go_sem]) ?_
  simp -implicitDefEqProofs only [go_sem]
  refine apD true (by simp -implicitDefEqProofs only [go_sem, ne_eq]) ?_
  simp -implicitDefEqProofs only [go_sem, ne_eq]
  refine apD true (by simp -implicitDefEqProofs only [go_sem, ne_eq]) ?_
  simp -implicitDefEqProofs only [go_sem, ne_eq]
theorem zxn (n : Str) (t : Tm) (hn : (t.name == n) = true) : RC Tryz.prog 176 [.agg [sbS []], sD n, tmD t] [.agg [sbS []]] := by
 have hS0 : sbS [] = .sl 3 [] := rfl
 rw [hS0]
 simp only [tmD, zaa t]
 refine RC_of Tryz.call176 Tryz.func176 rfl (by kernel_rfl) (zav (by kernel_rfl)) ?_
 simp -implicitDefEqProofs only [go_sem, Tryz.results176, hn]
def zci (l : List (Str × Tm)) : Tm -> Tm := Tm.fold fun m _ rs => if zay m = true then (match l.find? fun p => p.1 == m with | some p => p.2 | none => .mk m []) else .mk m rs
theorem zgn (l : List (Str × Tm)) (a : Tm) : zci l a = if zay a.name = true then (match l.find? fun p => p.1 == a.name with | some p => p.2 | none => .mk a.name []) else .mk a.name (a.args.map (zci l)) := by unfold zci; rw [Tm.fold_eq]
theorem zs5 (x : Str) : FC Tryz.prog 239 [.agg [sbS []], sD x] [iD (-1)] := by
 have hS : sbS [] = .sl 3 [] := rfl
 rw [hS]
 refine zaj Tryz.call239 Tryz.func239 rfl (by kernel_rfl) (zav (by kernel_rfl)) ?_
 simp -implicitDefEqProofs only [go_sem, Tryz.results239]
 refine zad (fun k : Nat => hd [(1, vT (.str x)), (2, .one (.bx 2 0)), (5, vI (0 : Nat))] [(2, [.t (.sl 3 [])])] []) (fun k => k = 0) (fun k => 0) 0 (zab ?_) rfl ?_
 ·simp -implicitDefEqProofs only [go_sem]
 ·rintro k rfl
  simp -implicitDefEqProofs only [go_sem]
theorem zx5 (l : List (Str × Tm)) (hl : l.length <= 1) (hw : ∀ p ∈ l, p.2.wt <= 1048576) (a : Tm) (ha : a.args.length <= 1048576) (H : ∀ x ∈ a.args, FC Tryz.prog 175 [.agg [sbS l], tmD x] [tmD (zci l x)]) : FC Tryz.prog 175 [.agg [sbS l], tmD a] [tmD (zci l a)] := by
 have hv := zgn l a
 have HV := zgl a.name
 cases hva : zay a.name
 ·rw [hva, if_neg (by simp)] at hv
  rw [hva] at HV
  rw [hv]
  have e1 : tmD (.mk a.name (a.args.map (zci l))) = .agg [.str a.name, .sl 2 (a.args.map fun x => tmC (zci l x))] := by unfold tmD; rw [zaa]; simp only [Tm.name, Tm.args, List.map_map, Function.comp_def]
  rw [e1]
  simp only [tmD, zaa a] at H ⊢
  unfold sbS at H ⊢
  generalize l.map bnC = L at H ⊢
  refine zaj Tryz.call175 Tryz.func175 rfl (by kernel_rfl) (zav (by kernel_rfl)) ?_
  simp -implicitDefEqProofs only [go_sem, Tryz.results175]
  refine callF (HV) (by simp -implicitDefEqProofs only [go_sem]) ?_
  simp -implicitDefEqProofs only [go_sem]
  refine zad (fun k : Nat => hd [(2, .one (.bx 2 0)), (3, .one (.bx 3 0)), (4, .one (.bx 4 0)), (6, .one (.bx 6 0)), (7, vI k)] [(2, [.t (.sl 3 L)]), (3, [.t (.str a.name), .t (tmS a.args)]), (4, [.t (.str []), .nl 2]), (6, [.t (.str a.name), .ow 3000 0])] [(3000, ⟨true, 2, (a.args.take k).map fun x => tmC (zci l x), 0, true⟩)]) (fun k => k <= a.args.length) (fun k => a.args.length - k) 0 (zab ?_) (Nat.zero_le _) ?_
  ·simp -implicitDefEqProofs only [go_sem]
  ·intro k hk
   by_cases hlt : k < a.args.length
   ·have HC := H a.args[k] (List.getElem_mem hlt)
    have hmin : min k a.args.length <= 4294967295 := by omega
    simp only [zaa a.args[k], zaa (zci l a.args[k])] at HC
    simp -implicitDefEqProofs only [go_sem, hlt]
    refine drawn (by kernel_rfl) ?_
    simp -implicitDefEqProofs only [go_sem, zai, hlt, zaa a.args[k]]
    refine za1 (HC) (by simp -implicitDefEqProofs only [go_sem]) ?_
    simp -implicitDefEqProofs only [go_sem]
    refine zbr (by simp -implicitDefEqProofs only [go_sem]) ?_
    simp -implicitDefEqProofs only [go_sem]
    refine zjo true (by simp -implicitDefEqProofs only [go_sem, ne_eq, List.length_map, List.length_take, hmin]) ?_
    simp -implicitDefEqProofs only [go_sem, ne_eq, List.length_map, List.length_take, hmin]
    refine ⟨by kernel_rfl, k + 1, hlt, by omega, zab ?_⟩
    simp -implicitDefEqProofs only [go_sem]
    rw [zak (by omega), List.take_succ_eq_append_getElem hlt, List.map_append, List.map_singleton]
    simp only [zaa]
    trivial
   ·have ht : a.args.take k = a.args := List.take_of_length_le (by omega)
    simp -implicitDefEqProofs only [go_sem, hlt, ht]
 ·rw [hva, if_pos rfl] at hv
  rw [hva] at HV
  rw [hv]
  match l, hl with
  | [], _ =>
   have HN := zs5 a.name
   simp only [List.find?_nil]
   have e1 : tmD (.mk a.name []) = .agg [.str a.name, .sl 2 []] := rfl
   have hS : sbS [] = .sl 3 [] := rfl
   rw [hS] at HN ⊢
   rw [e1]
   simp only [tmD, zaa a]
   refine zaj Tryz.call175 Tryz.func175 rfl (by kernel_rfl) (zav (by kernel_rfl)) ?_
   simp -implicitDefEqProofs only [go_sem, Tryz.results175]
   refine callF (HV) (by simp -implicitDefEqProofs only [go_sem]) ?_
   simp -implicitDefEqProofs only [go_sem]
   refine callF (HN) (by simp -implicitDefEqProofs only [go_sem]) ?_
   simp -implicitDefEqProofs only [go_sem]
  | [(n, t)], _ =>
   have HO := zxh n t a.name
   have HK := zse t (hw (n, t) (by simp))
   have hS : sbS [(n, t)] = .sl 3 [[.str n, .str t.name, .sl 2 (t.args.map tmC)]] := by unfold sbS; rw [List.map_singleton, zt6]
   rw [hS] at HO ⊢
   cases hn : n == a.name
   ·rw [hn] at HO
    simp only [List.find?_cons, hn, List.find?_nil]
    have e1 : tmD (.mk a.name []) = .agg [.str a.name, .sl 2 []] := rfl
    rw [e1]
    simp only [tmD, zaa a]
    refine zaj Tryz.call175 Tryz.func175 rfl (by kernel_rfl) (zav (by kernel_rfl)) ?_
    simp -implicitDefEqProofs only [go_sem, Tryz.results175]
    refine callF (HV) (by simp -implicitDefEqProofs only [go_sem]) ?_
    simp -implicitDefEqProofs only [go_sem]
    refine callF (HO) (by simp -implicitDefEqProofs only [go_sem]) ?_
    simp -implicitDefEqProofs only [go_sem]
   ·rw [hn] at HO
    simp only [List.find?_cons, hn]
    simp only [tmD, zaa a, zaa t] at HK ⊢
    refine zaj Tryz.call175 Tryz.func175 rfl (by kernel_rfl) (zav (by kernel_rfl)) ?_
    simp -implicitDefEqProofs only [go_sem, Tryz.results175]
    refine callF (HV) (by simp -implicitDefEqProofs only [go_sem]) ?_
    simp -implicitDefEqProofs only [go_sem]
    refine callF (HO) (by simp -implicitDefEqProofs only [go_sem]) ?_
    simp -implicitDefEqProofs only [go_sem]
    refine callF (HK) (by simp -implicitDefEqProofs only [go_sem]) ?_
    simp -implicitDefEqProofs only [go_sem]
theorem qen (l : List (Str × Tm)) (hl : l.length <= 1) (hw : ∀ p ∈ l, p.2.wt <= 1048576) : ∀ a : Tm, a.wt <= 1048576 -> FC Tryz.prog 175 [.agg [sbS l], tmD a] [tmD (zci l a)] :=
 zba fun m xs ih hs => by
  obtain ⟨h1, h2⟩ := Tm.wt_args hs
  exact zx5 l hl hw (.mk m xs) h1 fun x hx => ih x hx (h2 x hx)
end Go.Proofs.YtemnhgmgeijkcaaGreat
namespace Go.Proofs.YtemnhgmgeijkcaaGreat
set_option linter.unusedSimpArgs false
set_option linter.unusedVariables false
set_option linter.unusedSectionVars false
set_option maxRecDepth 4000
open Go.RowKit
def bnd (n : Str) (t : Tm) : List (Str × Tm) := if (t.name == n) = true then [] else [(n, t)]
def qlh (ps : List Fm) : List Str := match ps with
 | p :: _ => zbm [] (vf p [])
 | [] => []
def zcz (n : Str) (t : Tm) : Fm -> Fm × Bool := Fm.fold fun o a v ps rs =>
 if (o == 3) = true then (.mk o (zci (bnd n t) a) v [], (zci (bnd n t) a).atomOk)
 else if (isQ o && (v == n || !((qlh ps).contains n))) = true then (.mk o a v ps, true)
 else if (isQ o && (zbm [] (voS t)).contains v) = true then (.mk o (.mk [] []) v [], false)
 else (.mk o (.mk [] []) v ((rs.takeWhile Prod.snd).map Prod.fst), rs.all Prod.snd)
theorem qix {α β : Type} (p : β -> Bool) (f : α -> β) : ∀ xs : List α, (xs.map f).takeWhile p = (xs.takeWhile fun x => p (f x)).map f
 | [] => rfl
 | x :: xs => by
  simp only [List.map_cons, List.takeWhile_cons]
  cases p (f x)
  ·rfl
  ·simp only [if_true, List.map_cons, qix p f xs]
theorem zsy (n : Str) (t : Tm) (f : Fm) : zcz n t f = if (f.op == 3) = true then (.mk f.op (zci (bnd n t) f.atom) f.var [], (zci (bnd n t) f.atom).atomOk)
  else if (isQ f.op && (f.var == n || !((qlh f.parts).contains n))) = true then (f, true)
  else if (isQ f.op && (zbm [] (voS t)).contains f.var) = true then (.mk f.op (.mk [] []) f.var [], false)
  else (.mk f.op (.mk [] []) f.var ((f.parts.takeWhile fun x => (zcz n t x).2).map fun x => (zcz n t x).1), f.parts.all fun x => (zcz n t x).2) := by
 cases f with
 | mk o a v ps =>
  conv => lhs; unfold zcz; rw [Fm.fold_eq]
  simp only [qix, List.map_map, List.all_map]
  rfl
theorem qkf {f : Fm} (h : isQ f.op = true) (hf : f.forms = true) : ∃ p, f.parts = [p] /\ p.forms = true := by
 rw [Fm.forms_eq, Bool.and_eq_true] at hf
 have h1 := hf.1
 unfold Fm.here at h1
 have h2 : (f.op == 1 || f.op == 2) = false /\ (f.op == 3) = false /\ (f.op == 4) = false /\ zlf f.op = false := by
  have h8 : f.op = 8 \/ f.op = 9 := by unfold isQ at h; rw [Bool.or_eq_true, beq_iff_eq, beq_iff_eq] at h; exact h
  rcases h8 with e | e <;> rw [e] <;> decide
 rw [h2.1, h2.2.1, h2.2.2.1, h2.2.2.2, h] at h1
 simp only [Bool.false_eq_true, if_false, if_true, Bool.and_eq_true, decide_eq_true_eq] at h1
 obtain ⟨p, hp⟩ := List.length_eq_one_iff.1 h1.1.1
 exact ⟨p, hp, List.all_eq_true.1 hf.2 p (by rw [hp]; simp)⟩
theorem qls (n : Str) (t : Tm) : (bnd n t).length <= 1 := by unfold bnd; split <;> simp
theorem bnd_wt (n : Str) (t : Tm) (ht : t.wt <= 1048576) : ∀ p ∈ bnd n t, p.2.wt <= 1048576 := by
 unfold bnd
 split
 ·simp
 ·intro p hp; simp at hp; rw [hp]; exact ht
set_option maxHeartbeats 2000000 in
theorem qic (n : Str) (t : Tm) (ht : t.wt <= 1048576) (f : Fm) (hf : f.forms = true) (hw : f.wt <= 1048576) (hwa : (zci (bnd n t) f.atom).wt <= 1099511627776) (H : ∀ x ∈ f.parts, FC Tryz.prog 113 [fmD x, sD n, tmD t] [fmD (zcz n t x).1, bD (zcz n t x).2]) :
  FC Tryz.prog 113 [fmD f, sD n, tmD t] [fmD (zcz n t f).1, bD (zcz n t f).2] := by
 have hv := zsy n t f
 have hfl : f.parts.length <= 1048576 := by have := f.wt_eq; omega
 cases h3 : f.op == 3
 ·rw [h3, if_neg (by simp)] at hv
  cases hq : isQ f.op
  ·rw [hq, Bool.false_and, if_neg (by simp), Bool.false_and, if_neg (by simp)] at hv
   have hq8 : (f.op == 8) = false /\ (f.op == 9) = false := by unfold isQ at hq; rw [Bool.or_eq_false_iff] at hq; exact hq
   simp only [fmD, zac f, tmD, zaa t]
   refine zaj Tryz.call113 Tryz.func113 rfl (by kernel_rfl) (zav (by kernel_rfl)) ?_
   simp -implicitDefEqProofs only [go_sem, Tryz.results113, h3, hq8.1, hq8.2]
   refine zad (fun k : Nat => hd [(1, vT (.str n)), (3, .one (.bx 3 0)), (5, .one (.bx 5 0)), (6, .one (.bx 6 0)), (8, .one (.bx 8 0)), (9, vI k)] [(3, [.t (.int .i64 f.op), .t (.str f.atom.name), .t (tmS f.atom.args), .t (.str f.var), .t (fmS f.parts)]), (5, [.t (.str t.name), .t (tmS t.args)]), (6, [.t (.int .i64 0), .t (.str []), .nl 2, .t (.str []), .nl 5]), (8, [.t (.int .i64 f.op), .t (.str []), .nl 2, .t (.str f.var), .ow 8000 0])] [(8000, ⟨true, 5, (f.parts.take k).map fun x => fmC (zcz n t x).1, 0, true⟩)]) (fun k => k <= f.parts.length /\ ∀ x ∈ f.parts.take k, (zcz n t x).2 = true) (fun k => f.parts.length - k) 0 (zab ?_) ⟨Nat.zero_le _, by simp⟩ ?_
   ·simp -implicitDefEqProofs only [go_sem]
   ·rintro k ⟨hk, hT⟩
    by_cases hlt : k < f.parts.length
    ·have HC := H f.parts[k] (List.getElem_mem hlt)
     have hmin : min k f.parts.length <= 4294967295 := by omega
     simp only [fmD, zac f.parts[k], zac (zcz n t f.parts[k]).1, tmD, zaa t] at HC
     cases hk2 : (zcz n t f.parts[k]).2
     ·rw [hk2] at HC
      have htw := (zdk (p := fun x => (zcz n t x).2) hk hT fun _ => hk2).1
      have hall : (f.parts.all fun x => (zcz n t x).2) = false := by rw [List.all_eq_false]; exact ⟨_, List.getElem_mem hlt, by rw [hk2]; simp⟩
      rw [htw, hall] at hv
      rw [hv]
      simp -implicitDefEqProofs only [go_sem, hlt]
      refine drawn (by kernel_rfl) ?_
      simp -implicitDefEqProofs only [go_sem, zai, hlt, zac f.parts[k]]
      refine za1 (HC) (by simp -implicitDefEqProofs only [go_sem]) ?_
      simp -implicitDefEqProofs only [go_sem]
      refine ⟨by kernel_rfl, ?_⟩
      simp -implicitDefEqProofs only [go_sem, zc2, List.map_map, Function.comp_def]
      exact ⟨rfl, rfl⟩
     ·rw [hk2] at HC
      simp -implicitDefEqProofs only [go_sem, hlt]
      refine drawn (by kernel_rfl) ?_
      simp -implicitDefEqProofs only [go_sem, zai, hlt, zac f.parts[k]]
      refine za1 (HC) (by simp -implicitDefEqProofs only [go_sem]) ?_
      simp -implicitDefEqProofs only [go_sem]
      refine ⟨by kernel_rfl, ?_⟩
      refine za2 (by simp -implicitDefEqProofs only [go_sem]) ?_
      simp -implicitDefEqProofs only [go_sem]
      refine apD true (by simp -implicitDefEqProofs only [go_sem, ne_eq, List.length_map, List.length_take, hmin]) ?_
      simp -implicitDefEqProofs only [go_sem, ne_eq, List.length_map, List.length_take, hmin]
      refine ⟨k + 1, ⟨hlt, fun x hx => ?_⟩, by omega, zab ?_⟩
      ·rw [List.take_succ_eq_append_getElem hlt] at hx
       rcases List.mem_append.1 hx with hx | hx
       ·exact hT x hx
       ·rw [List.mem_singleton] at hx; subst hx; exact hk2
      ·simp -implicitDefEqProofs only [go_sem]
       rw [zak (by omega), List.take_succ_eq_append_getElem hlt, List.map_append, List.map_singleton]
       simp only [zac]
       trivial
    ·have htk : f.parts.take k = f.parts := List.take_of_length_le (by omega)
     rw [htk] at hT
     have hall : (f.parts.all fun x => (zcz n t x).2) = true := List.all_eq_true.2 hT
     have htw : (f.parts.takeWhile fun x => (zcz n t x).2) = f.parts := by
      have := (zdk (l := f.parts) (p := fun x => (zcz n t x).2) (k := f.parts.length) (Nat.le_refl _) (by rw [List.take_length]; exact hT) fun h => absurd h (Nat.lt_irrefl _)).1
      rw [this, List.take_length]
     rw [htw, hall] at hv
     rw [hv]
     simp -implicitDefEqProofs only [go_sem, hlt, htk, zc2, List.map_map, Function.comp_def]
     exact ⟨rfl, rfl⟩
  ·obtain ⟨q, hp, hpf⟩ := qkf hq hf
   have key : (f.op == 8) = true \/ ((f.op == 8) = false /\ (f.op == 9) = true) := by
    have hq8 := hq
    unfold isQ at hq8
    cases h8 : f.op == 8
    ·rw [h8, Bool.false_or] at hq8; exact Or.inr ⟨rfl, hq8⟩
    ·exact Or.inl rfl
   have HFr := zug q hpf (by have := f.wt_eq; rw [hp] at this; simp only [List.map_cons, List.map_nil, List.sum_cons, List.sum_nil] at this; omega)
   have HOw := zss f hw
   have hfr : qlh f.parts = zbm [] (vf q []) := by rw [hp]; rfl
   rw [hfr] at hv
   generalize zbm [] (vf q []) = V at hv HFr
   have HIn := zt8 V n
   have hvl := zm6 t
   have HVs := zn3 t (by omega) (by omega)
   generalize zbm [] (voS t) = TV at hv HVs
   have HIt := zt8 TV f.var
   rw [hq, Bool.true_and, Bool.true_and] at hv
   have hp0 : f.parts.length = 1 := by rw [hp]; rfl
   have e0 : (List.map fmC f.parts).getD 0 [] = fmC q := by rw [hp]; rfl
   cases hvn : f.var == n
   ·rw [hvn, Bool.false_or] at hv
    cases hcn : V.contains n
    ·rw [hcn, if_pos (by simp)] at hv
     rw [hcn] at HIn
     rw [hv]
     simp only [fmD, zac f, tmD, zaa t, zac q] at HOw HFr ⊢
     rcases key with e8 | ⟨e8, e9⟩
     ·refine zaj Tryz.call113 Tryz.func113 rfl (by kernel_rfl) (zav (by kernel_rfl)) ?_
      simp -implicitDefEqProofs only [go_sem, Tryz.results113, h3, e8, hvn, hp0, e0, zac q]
      refine callF (HFr) (by simp -implicitDefEqProofs only [go_sem]) ?_
      simp -implicitDefEqProofs only [go_sem]
      refine callF (HIn) (by simp -implicitDefEqProofs only [go_sem]) ?_
      simp -implicitDefEqProofs only [go_sem]
      refine callF (HOw) (by simp -implicitDefEqProofs only [go_sem]) ?_
      simp -implicitDefEqProofs only [go_sem]
     ·refine zaj Tryz.call113 Tryz.func113 rfl (by kernel_rfl) (zav (by kernel_rfl)) ?_
      simp -implicitDefEqProofs only [go_sem, Tryz.results113, h3, e8, e9, hvn, hp0, e0, zac q]
      refine callF (HFr) (by simp -implicitDefEqProofs only [go_sem]) ?_
      simp -implicitDefEqProofs only [go_sem]
      refine callF (HIn) (by simp -implicitDefEqProofs only [go_sem]) ?_
      simp -implicitDefEqProofs only [go_sem]
      refine callF (HOw) (by simp -implicitDefEqProofs only [go_sem]) ?_
      simp -implicitDefEqProofs only [go_sem]
    ·rw [hcn, if_neg (by simp)] at hv
     rw [hcn] at HIn
     cases hti : TV.contains f.var
     ·rw [hti, if_neg (by simp)] at hv
      rw [hti] at HIt
      simp only [fmD, zac f, tmD, zaa t, zac q] at HVs HFr ⊢
      rcases key with e8 | ⟨e8, e9⟩
      ·refine zaj Tryz.call113 Tryz.func113 rfl (by kernel_rfl) (zav (by kernel_rfl)) ?_
       simp -implicitDefEqProofs only [go_sem, Tryz.results113, h3, e8, hvn, hp0, e0, zac q]
       refine callF (HFr) (by simp -implicitDefEqProofs only [go_sem]) ?_
       simp -implicitDefEqProofs only [go_sem]
       refine callF (HIn) (by simp -implicitDefEqProofs only [go_sem]) ?_
       simp -implicitDefEqProofs only [go_sem]
       refine drawn (by kernel_rfl) ?_
       simp -implicitDefEqProofs only [go_sem]
       refine za1 (HVs) (by simp -implicitDefEqProofs only [go_sem]) ?_
       simp -implicitDefEqProofs only [go_sem]
       refine za1 (HIt) (by simp -implicitDefEqProofs only [go_sem]) ?_
       simp -implicitDefEqProofs only [go_sem]
       refine ⟨by kernel_rfl, ?_⟩
       refine zad (fun k : Nat => hd [(1, vT (.str n)), (3, .one (.bx 3 0)), (5, .one (.bx 5 0)), (6, .one (.bx 6 0)), (8, .one (.bx 8 0)), (9, vI k)] [(3, [.t (.int .i64 f.op), .t (.str f.atom.name), .t (tmS f.atom.args), .t (.str f.var), .t (fmS f.parts)]), (5, [.t (.str t.name), .t (tmS t.args)]), (6, [.t (.int .i64 0), .t (.str []), .nl 2, .t (.str []), .nl 5]), (8, [.t (.int .i64 f.op), .t (.str []), .nl 2, .t (.str f.var), .ow 8000 0])] [(8000, ⟨true, 5, (f.parts.take k).map fun x => fmC (zcz n t x).1, 0, true⟩)]) (fun k => k <= f.parts.length /\ ∀ x ∈ f.parts.take k, (zcz n t x).2 = true) (fun k => f.parts.length - k) 0 (zab ?_) ⟨Nat.zero_le _, by simp⟩ ?_
       ·simp -implicitDefEqProofs only [go_sem]
       ·rintro k ⟨hk, hT⟩
        by_cases hlt : k < f.parts.length
        ·have HC := H f.parts[k] (List.getElem_mem hlt)
         have hmin : min k f.parts.length <= 4294967295 := by omega
         simp only [fmD, zac f.parts[k], zac (zcz n t f.parts[k]).1, tmD, zaa t] at HC
         cases hk2 : (zcz n t f.parts[k]).2
         ·rw [hk2] at HC
          have htw := (zdk (p := fun x => (zcz n t x).2) hk hT fun _ => hk2).1
          have hall : (f.parts.all fun x => (zcz n t x).2) = false := by rw [List.all_eq_false]; exact ⟨_, List.getElem_mem hlt, by rw [hk2]; simp⟩
          rw [htw, hall] at hv
          rw [hv]
          simp -implicitDefEqProofs only [go_sem, hlt]
          refine drawn (by kernel_rfl) ?_
          simp -implicitDefEqProofs only [go_sem, zai, hlt, zac f.parts[k]]
          refine za1 (HC) (by simp -implicitDefEqProofs only [go_sem]) ?_
          simp -implicitDefEqProofs only [go_sem]
          refine ⟨by kernel_rfl, ?_⟩
          simp -implicitDefEqProofs only [go_sem, zc2, List.map_map, Function.comp_def]
          exact ⟨rfl, rfl⟩
         ·rw [hk2] at HC
          simp -implicitDefEqProofs only [go_sem, hlt]
          refine drawn (by kernel_rfl) ?_
          simp -implicitDefEqProofs only [go_sem, zai, hlt, zac f.parts[k]]
          refine za1 (HC) (by simp -implicitDefEqProofs only [go_sem]) ?_
          simp -implicitDefEqProofs only [go_sem]
          refine ⟨by kernel_rfl, ?_⟩
          refine za2 (by simp -implicitDefEqProofs only [go_sem]) ?_
          simp -implicitDefEqProofs only [go_sem]
          refine apD true (by simp -implicitDefEqProofs only [go_sem, ne_eq, List.length_map, List.length_take, hmin]) ?_
          simp -implicitDefEqProofs only [go_sem, ne_eq, List.length_map, List.length_take, hmin]
          refine ⟨k + 1, ⟨hlt, fun x hx => ?_⟩, by omega, zab ?_⟩
          ·rw [List.take_succ_eq_append_getElem hlt] at hx
           rcases List.mem_append.1 hx with hx | hx
           ·exact hT x hx
           ·rw [List.mem_singleton] at hx; subst hx; exact hk2
          ·simp -implicitDefEqProofs only [go_sem]
           rw [zak (by omega), List.take_succ_eq_append_getElem hlt, List.map_append, List.map_singleton]
           simp only [zac]
           trivial
        ·have htk : f.parts.take k = f.parts := List.take_of_length_le (by omega)
         rw [htk] at hT
         have hall : (f.parts.all fun x => (zcz n t x).2) = true := List.all_eq_true.2 hT
         have htw : (f.parts.takeWhile fun x => (zcz n t x).2) = f.parts := by
          have := (zdk (l := f.parts) (p := fun x => (zcz n t x).2) (k := f.parts.length) (Nat.le_refl _) (by rw [List.take_length]; exact hT) fun h => absurd h (Nat.lt_irrefl _)).1
          rw [this, List.take_length]
         rw [htw, hall] at hv
         rw [hv]
         simp -implicitDefEqProofs only [go_sem, hlt, htk, zc2, List.map_map, Function.comp_def]
         exact ⟨rfl, rfl⟩
      ·refine zaj Tryz.call113 Tryz.func113 rfl (by kernel_rfl) (zav (by kernel_rfl)) ?_
       simp -implicitDefEqProofs only [go_sem, Tryz.results113, h3, e8, e9, hvn, hp0, e0, zac q]
       refine callF (HFr) (by simp -implicitDefEqProofs only [go_sem]) ?_
       simp -implicitDefEqProofs only [go_sem]
       refine callF (HIn) (by simp -implicitDefEqProofs only [go_sem]) ?_
       simp -implicitDefEqProofs only [go_sem]
       refine drawn (by kernel_rfl) ?_
       simp -implicitDefEqProofs only [go_sem]
       refine za1 (HVs) (by simp -implicitDefEqProofs only [go_sem]) ?_
       simp -implicitDefEqProofs only [go_sem]
       refine za1 (HIt) (by simp -implicitDefEqProofs only [go_sem]) ?_
       simp -implicitDefEqProofs only [go_sem]
       refine ⟨by kernel_rfl, ?_⟩
       refine zad (fun k : Nat => hd [(1, vT (.str n)), (3, .one (.bx 3 0)), (5, .one (.bx 5 0)), (6, .one (.bx 6 0)), (8, .one (.bx 8 0)), (9, vI k)] [(3, [.t (.int .i64 f.op), .t (.str f.atom.name), .t (tmS f.atom.args), .t (.str f.var), .t (fmS f.parts)]), (5, [.t (.str t.name), .t (tmS t.args)]), (6, [.t (.int .i64 0), .t (.str []), .nl 2, .t (.str []), .nl 5]), (8, [.t (.int .i64 f.op), .t (.str []), .nl 2, .t (.str f.var), .ow 8000 0])] [(8000, ⟨true, 5, (f.parts.take k).map fun x => fmC (zcz n t x).1, 0, true⟩)]) (fun k => k <= f.parts.length /\ ∀ x ∈ f.parts.take k, (zcz n t x).2 = true) (fun k => f.parts.length - k) 0 (zab ?_) ⟨Nat.zero_le _, by simp⟩ ?_
       ·simp -implicitDefEqProofs only [go_sem]
       ·rintro k ⟨hk, hT⟩
        by_cases hlt : k < f.parts.length
        ·have HC := H f.parts[k] (List.getElem_mem hlt)
         have hmin : min k f.parts.length <= 4294967295 := by omega
         simp only [fmD, zac f.parts[k], zac (zcz n t f.parts[k]).1, tmD, zaa t] at HC
         cases hk2 : (zcz n t f.parts[k]).2
         ·rw [hk2] at HC
          have htw := (zdk (p := fun x => (zcz n t x).2) hk hT fun _ => hk2).1
          have hall : (f.parts.all fun x => (zcz n t x).2) = false := by rw [List.all_eq_false]; exact ⟨_, List.getElem_mem hlt, by rw [hk2]; simp⟩
          rw [htw, hall] at hv
          rw [hv]
          simp -implicitDefEqProofs only [go_sem, hlt]
          refine drawn (by kernel_rfl) ?_
          simp -implicitDefEqProofs only [go_sem, zai, hlt, zac f.parts[k]]
          refine za1 (HC) (by simp -implicitDefEqProofs only [go_sem]) ?_
          simp -implicitDefEqProofs only [go_sem]
          refine ⟨by kernel_rfl, ?_⟩
          simp -implicitDefEqProofs only [go_sem, zc2, List.map_map, Function.comp_def]
          exact ⟨rfl, rfl⟩
         ·rw [hk2] at HC
          simp -implicitDefEqProofs only [go_sem, hlt]
          refine drawn (by kernel_rfl) ?_
          simp -implicitDefEqProofs only [go_sem, zai, hlt, zac f.parts[k]]
          refine za1 (HC) (by simp -implicitDefEqProofs only [go_sem]) ?_
          simp -implicitDefEqProofs only [go_sem]
          refine ⟨by kernel_rfl, ?_⟩
          refine za2 (by simp -implicitDefEqProofs only [go_sem]) ?_
          simp -implicitDefEqProofs only [go_sem]
          refine apD true (by simp -implicitDefEqProofs only [go_sem, ne_eq, List.length_map, List.length_take, hmin]) ?_
          simp -implicitDefEqProofs only [go_sem, ne_eq, List.length_map, List.length_take, hmin]
          refine ⟨k + 1, ⟨hlt, fun x hx => ?_⟩, by omega, zab ?_⟩
          ·rw [List.take_succ_eq_append_getElem hlt] at hx
           rcases List.mem_append.1 hx with hx | hx
           ·exact hT x hx
           ·rw [List.mem_singleton] at hx; subst hx; exact hk2
          ·simp -implicitDefEqProofs only [go_sem]
           rw [zak (by omega), List.take_succ_eq_append_getElem hlt, List.map_append, List.map_singleton]
           simp only [zac]
           trivial
        ·have htk : f.parts.take k = f.parts := List.take_of_length_le (by omega)
         rw [htk] at hT
         have hall : (f.parts.all fun x => (zcz n t x).2) = true := List.all_eq_true.2 hT
         have htw : (f.parts.takeWhile fun x => (zcz n t x).2) = f.parts := by
          have := (zdk (l := f.parts) (p := fun x => (zcz n t x).2) (k := f.parts.length) (Nat.le_refl _) (by rw [List.take_length]; exact hT) fun h => absurd h (Nat.lt_irrefl _)).1
          rw [this, List.take_length]
         rw [htw, hall] at hv
         rw [hv]
         simp -implicitDefEqProofs only [go_sem, hlt, htk, zc2, List.map_map, Function.comp_def]
         exact ⟨rfl, rfl⟩
     ·rw [hti, if_pos rfl] at hv
      rw [hti] at HIt
      rw [hv]
      have e5 : fmD (.mk f.op (.mk [] []) f.var []) = .agg [.int .i64 f.op, .str [], .sl 2 [], .str f.var, .sl 5 []] := by unfold fmD; rw [zac]; rfl
      rw [e5]
      simp only [fmD, zac f, tmD, zaa t, zac q] at HVs HFr ⊢
      rcases key with e8 | ⟨e8, e9⟩
      ·refine zaj Tryz.call113 Tryz.func113 rfl (by kernel_rfl) (zav (by kernel_rfl)) ?_
       simp -implicitDefEqProofs only [go_sem, Tryz.results113, h3, e8, hvn, hp0, e0, zac q]
       refine callF (HFr) (by simp -implicitDefEqProofs only [go_sem]) ?_
       simp -implicitDefEqProofs only [go_sem]
       refine callF (HIn) (by simp -implicitDefEqProofs only [go_sem]) ?_
       simp -implicitDefEqProofs only [go_sem]
       refine drawn (by kernel_rfl) ?_
       simp -implicitDefEqProofs only [go_sem]
       refine za1 (HVs) (by simp -implicitDefEqProofs only [go_sem]) ?_
       simp -implicitDefEqProofs only [go_sem]
       refine za1 (HIt) (by simp -implicitDefEqProofs only [go_sem]) ?_
       simp -implicitDefEqProofs only [go_sem]
       kernel_rfl
      ·refine zaj Tryz.call113 Tryz.func113 rfl (by kernel_rfl) (zav (by kernel_rfl)) ?_
       simp -implicitDefEqProofs only [go_sem, Tryz.results113, h3, e8, e9, hvn, hp0, e0, zac q]
       refine callF (HFr) (by simp -implicitDefEqProofs only [go_sem]) ?_
       simp -implicitDefEqProofs only [go_sem]
       refine callF (HIn) (by simp -implicitDefEqProofs only [go_sem]) ?_
       simp -implicitDefEqProofs only [go_sem]
       refine drawn (by kernel_rfl) ?_
       simp -implicitDefEqProofs only [go_sem]
       refine za1 (HVs) (by simp -implicitDefEqProofs only [go_sem]) ?_
       simp -implicitDefEqProofs only [go_sem]
       refine za1 (HIt) (by simp -implicitDefEqProofs only [go_sem]) ?_
       simp -implicitDefEqProofs only [go_sem]
       kernel_rfl
   ·rw [hvn, Bool.true_or, if_pos rfl] at hv
    rw [hv]
    simp only [fmD, zac f, tmD, zaa t] at HOw ⊢
    rcases key with e8 | ⟨e8, e9⟩
    ·refine zaj Tryz.call113 Tryz.func113 rfl (by kernel_rfl) (zav (by kernel_rfl)) ?_
     simp -implicitDefEqProofs only [go_sem, Tryz.results113, h3, e8, hvn]
     refine callF (HOw) (by simp -implicitDefEqProofs only [go_sem]) ?_
     simp -implicitDefEqProofs only [go_sem]
    ·refine zaj Tryz.call113 Tryz.func113 rfl (by kernel_rfl) (zav (by kernel_rfl)) ?_
     simp -implicitDefEqProofs only [go_sem, Tryz.results113, h3, e8, e9, hvn]
     refine callF (HOw) (by simp -implicitDefEqProofs only [go_sem]) ?_
     simp -implicitDefEqProofs only [go_sem]
 ·rw [h3, if_pos rfl] at hv
  have HA := qen (bnd n t) (qls n t) (bnd_wt n t ht) f.atom (by have := zmm f; omega)
  rw [hv]
  generalize zci (bnd n t) f.atom = R at HA hwa ⊢
  have HO := zun R hwa
  cases hn : t.name == n
  ·have e0 : bnd n t = [(n, t)] := by unfold bnd; rw [hn, if_neg (by simp)]
   have HP := qck n t ht hn
   have hS0 : sbS [] = .sl 3 [] := rfl
   rw [e0] at HA
   generalize [(n, t)] = B at HA HP
   rw [hS0] at HP
   unfold sbS at HP HA
   generalize B.map bnC = L at HA HP
   simp only [fmD, zac f, tmD, zaa t, zaa f.atom, zaa R, zc2, List.map_nil] at HA HP HO ⊢
   refine zaj Tryz.call113 Tryz.func113 rfl (by kernel_rfl) (zav (by kernel_rfl)) ?_
   simp -implicitDefEqProofs only [go_sem, Tryz.results113, h3]
   refine drawn (by kernel_rfl) ?_
   simp -implicitDefEqProofs only [go_sem]
   refine za1 (HP) (by simp -implicitDefEqProofs only [go_sem]) ?_
   simp -implicitDefEqProofs only [go_sem]
   refine za1 (HA) (by simp -implicitDefEqProofs only [go_sem]) ?_
   simp -implicitDefEqProofs only [go_sem]
   refine ⟨by kernel_rfl, ?_⟩
   refine drawn (by kernel_rfl) ?_
   simp -implicitDefEqProofs only [go_sem]
   refine za1 (HO) (by simp -implicitDefEqProofs only [go_sem]) ?_
   simp -implicitDefEqProofs only [go_sem]
   kernel_rfl
  ·have e0 : bnd n t = [] := by unfold bnd; rw [hn, if_pos rfl]
   have HP := zxn n t hn
   have hS0 : sbS [] = .sl 3 [] := rfl
   rw [e0] at HA
   rw [hS0] at HP HA
   simp only [fmD, zac f, tmD, zaa t, zaa f.atom, zaa R, zc2, List.map_nil] at HA HP HO ⊢
   refine zaj Tryz.call113 Tryz.func113 rfl (by kernel_rfl) (zav (by kernel_rfl)) ?_
   simp -implicitDefEqProofs only [go_sem, Tryz.results113, h3]
   refine drawn (by kernel_rfl) ?_
   simp -implicitDefEqProofs only [go_sem]
   refine dCallR HP (by simp -implicitDefEqProofs only [go_sem]) ?_
   simp -implicitDefEqProofs only [go_sem]
   refine za1 (HA) (by simp -implicitDefEqProofs only [go_sem]) ?_
   simp -implicitDefEqProofs only [go_sem]
   refine ⟨by kernel_rfl, ?_⟩
   refine drawn (by kernel_rfl) ?_
   simp -implicitDefEqProofs only [go_sem]
   refine za1 (HO) (by simp -implicitDefEqProofs only [go_sem]) ?_
   simp -implicitDefEqProofs only [go_sem]
   kernel_rfl
end Go.Proofs.YtemnhgmgeijkcaaGreat
namespace Go.Proofs.YtemnhgmgeijkcaaGreat
set_option linter.unusedSimpArgs false
set_option linter.unusedVariables false
set_option linter.unusedSectionVars false
set_option maxRecDepth 4000
open Go.RowKit
theorem qep (l : List (Str × Tm)) (W : Nat) (hW : ∀ p ∈ l, p.2.wt <= W) : ∀ a : Tm, (zci l a).wt <= a.wt + a.nodes * W := zba fun m xs ih => by
 rw [zgn, Tm.nodes_eq]
 show (if zay m = true then (match l.find? fun (p : Str × Tm) => p.1 == m with | some p => p.2 | none => .mk m []) else .mk m (xs.map (zci l))).wt <= (Tm.mk m xs).wt + (1 + (xs.map Tm.nodes).sum) * W
 have hs : (xs.map fun x => (zci l x).wt).sum <= (xs.map Tm.wt).sum + (xs.map Tm.nodes).sum * W := by
  revert ih
  induction xs with
  | nil => simp
  | cons x xs ih2 =>
   intro ih
   have h1 := ih x (by simp)
   have h2 := ih2 fun y hy => ih y (by simp [hy])
   simp only [List.map_cons, List.sum_cons, Nat.add_mul]
   omega
 have h0 := Tm.wt_eq (.mk m xs)
 have h0 : (Tm.mk m xs).wt = m.length + xs.length + (xs.map Tm.wt).sum := h0
 rw [Nat.add_mul, Nat.one_mul]
 split
 ·split
  ·rename_i p hp
   have := hW p (List.mem_of_find?_eq_some hp)
   omega
  ·have h1 := Tm.wt_eq (.mk m [])
   have h1 : (Tm.mk m []).wt = m.length + 0 + 0 := h1
   omega
 ·have h1 := Tm.wt_eq (.mk m (xs.map (zci l)))
  have h1 : (Tm.mk m (xs.map (zci l))).wt = m.length + (xs.map (zci l)).length + ((xs.map (zci l)).map Tm.wt).sum := h1
  rw [List.length_map, List.map_map] at h1
  have h2 : (xs.map (Tm.wt ∘ zci l)).sum = (xs.map fun x => (zci l x).wt).sum := rfl
  omega
theorem qnc (n : Str) (t : Tm) : ∀ p ∈ bnd n t, p.2.wt <= t.wt := by
 unfold bnd
 split
 ·simp
 ·intro p hp; simp at hp; rw [hp]; exact Nat.le_refl _
theorem qkg (n : Str) (t : Tm) (ht : t.wt <= 1048576) : ∀ f : Fm, f.forms = true -> f.wt <= 1048576 -> f.wt + (1 + f.wt) * t.wt <= 1099511627776 -> FC Tryz.prog 113 [fmD f, sD n, tmD t] [fmD (zcz n t f).1, bD (zcz n t f).2] :=
 za7 fun o a v ps ih hf hw hb => by
  refine qic n t ht (.mk o a v ps) hf hw ?_ fun x hx => ih x hx (by rw [Fm.forms_eq, Bool.and_eq_true] at hf; exact List.all_eq_true.1 hf.2 x hx) (Nat.le_trans (zbx (a := .mk o a v ps) hx) hw) ?_
  ·have h1 := qep (bnd n t) t.wt (qnc n t) a
   have h2 := zf2 a
   have h3 : a.wt <= (Fm.mk o a v ps).wt := zmm (.mk o a v ps)
   have h4 : a.nodes * t.wt <= (1 + (Fm.mk o a v ps).wt) * t.wt := Nat.mul_le_mul_right _ (by omega)
   show (zci (bnd n t) a).wt <= _
   omega
  ·have h3 := zbx (a := .mk o a v ps) hx
   have h4 : (1 + x.wt) * t.wt <= (1 + (Fm.mk o a v ps).wt) * t.wt := Nat.mul_le_mul_right _ (by omega)
   omega
end Go.Proofs.YtemnhgmgeijkcaaGreat
namespace Go.Proofs.YtemnhgmgeijkcaaGreat
set_option linter.unusedSimpArgs false
set_option linter.unusedVariables false
set_option linter.unusedSectionVars false
set_option maxRecDepth 4000
open Go.RowKit
attribute [local go_sem] Oper.semAt_some
set_option maxHeartbeats 1000000 in
theorem zku : qa5 Tryz.prog 129 191 := by
 refine ⟨Tryz.call129, fun a len cap w => ?_⟩
 refine callsIn_wide.1 (callsIn_of_wp (n := 0) Tryz.func129 rfl trivial ?_ rfl)
 simp only [Tryz.ntmps129, List.size_toArray, List.length_cons, List.length_nil, Nat.reduceAdd, Nat.reduceSub, Array.replicate_succ, Array.replicate_zero, List.push_toArray, List.append_toArray, List.nil_append, List.cons_append]
 gi_wp2
 go_ret
 exact ⟨_, rfl, rfl⟩
set_option maxRecDepth 100000 in
set_option maxHeartbeats 2000000 in
theorem zl6 : zua Tryz.prog 191 true 5 := by
 intro l Bs n W J hmax hlen0 hrd h0
 obtain ⟨ao, cap, hBs⟩ := hlen0 W h0
 have hmax : n <= 9223372036854775807 := hmax
 have hw1 : IntKind.i64.wrap ((n : Int) - 1) = (n : Int) - 1 := by rw [IntKind.wrap_i64]; omega
 have hro : (FR none).round = none := rfl
 refine callsIn_of_wp Tryz.func191 rfl trivial ?_ rfl
 simp only [Tryz.ntmps191, List.size_toArray, List.length_cons, List.length_nil, Nat.reduceAdd, Nat.reduceSub, Array.replicate_succ, Array.replicate_zero, List.push_toArray, List.append_toArray, List.nil_append, List.cons_append]
 gi_wp2
 gi_loopw [3] (fun i wr => ∃ k : Nat, k <= n /\ i = .int .i64 ((n : Int) - 1 - k) /\ J k wr) (fun i _ => (intOf i + 1).toNat)
 case atStart => exact ⟨0, Nat.zero_le _, by simp, h0⟩
 case round =>
  obtain ⟨k, hk, rfl, hJs⟩ := hrel
  by_cases hlt : k < n
  ·obtain ⟨m, hm⟩ : ∃ m, n - 1 - k = m := ⟨_, rfl⟩
   have hml : m < n := by omega
   obtain ⟨b, o, cap', r, hb, hr, hcell, fn, tmps, assign, body, hy, hR⟩ := hrd k wr hJs hlt
   match r, hr, hcell, hy with
   | [v0, v1, v2, v3, v4], _, hcell, hy =>
    rw [hm] at hcell hy
    rw [show (n : Int) - 1 - k = (m : Int) by omega]
    have e1 : wr.cell? ⟨b, o + m * 5, none⟩ = _ := hcell 0 v0 rfl
    have e2 : wr.cell? ⟨b, o + m * 5 + 1, none⟩ = _ := hcell 1 v1 rfl
    have e3 : wr.cell? ⟨b, o + m * 5 + 2, none⟩ = _ := hcell 2 v2 rfl
    have e4 : wr.cell? ⟨b, o + m * 5 + 3, none⟩ = _ := hcell 3 v3 rfl
    have e5 : wr.cell? ⟨b, o + m * 5 + 4, none⟩ = _ := hcell 4 v4 rfl
    simp only [agv, if_true] at hy
    have hw2 : IntKind.i64.wrap ((m : Int) - 1) = (m : Int) - 1 := by rw [IntKind.wrap_i64]; omega
    gi_wp2
    refine hR.mono ?_
    rintro e W3 ⟨rfl, hJ3⟩
    gi_wp2
    go_roundw
    case rel => exact ⟨k + 1, by omega, by go_num, hJ3⟩
    case measure => simp [intOf]
  ·obtain rfl : k = n := by omega
   gi_wp2
   go_end0
   exact ⟨⟨_, rfl⟩, hJs⟩
end Go.Proofs.YtemnhgmgeijkcaaGreat
namespace Go.Proofs.YtemnhgmgeijkcaaGreat
set_option linter.unusedSimpArgs false
set_option linter.unusedVariables false
set_option linter.unusedSectionVars false
set_option maxRecDepth 4000
open Go.RowKit
structure OF where
 op : Int
 name : Str
 a : Option Addr × Nat × Nat
 var : Str
 p : Option Addr × Nat × Nat
def ofC (x : OF) : List T := [.int .i64 x.op, .str x.name, .vs x.a.1 x.a.2.1 x.a.2.2, .str x.var, .vs x.p.1 x.p.2.1 x.p.2.2]
theorem zel (x : OF) : ofC x = [.int .i64 x.op, .str x.name, .vs x.a.1 x.a.2.1 x.a.2.2, .str x.var, .vs x.p.1 x.p.2.1 x.p.2.2] := rfl
def jnC (op : Int) : List OF -> List T
 | [] => []
 | [x] => ofC x
 | x :: xs => [.int .i64 op, .str [], .sl 2 [], .str [], .sl 5 [ofC x, jnC op xs]]
theorem zm1 (op : Int) (x : OF) {xs : List OF} (h : xs ≠ []) : jnC op (x :: xs) = [.int .i64 op, .str [], .sl 2 [], .str [], .sl 5 [ofC x, jnC op xs]] := by
 cases xs with
 | nil => exact absurd rfl h
 | cons y ys => rfl
theorem qek (op : Int) (x y : OF) : FC Tryz.prog 130 [iD op, .agg (ofC x), .agg (ofC y)] [.agg [.int .i64 op, .str [], .sl 2 [], .str [], .sl 5 [ofC x, ofC y]]] := by
 simp only [zel]
 refine zaj Tryz.call130 Tryz.func130 rfl (by kernel_rfl) (zav (by kernel_rfl)) ?_
 simp -implicitDefEqProofs only [go_sem, Tryz.results130]
 refine za2 (by simp -implicitDefEqProofs only [go_sem]) ?_
 simp -implicitDefEqProofs only [go_sem]
theorem qdt (op o2 : Int) (x : OF) (R : List (List T)) : GC Tryz.prog 130 [(false, iD op), (false, .agg (ofC x)), (true, .agg [.int .i64 o2, .str [], .sl 2 [], .str [], .sl 5 R])] [.agg [.int .i64 op, .str [], .sl 2 [], .str [], .sl 5 [ofC x, [.int .i64 o2, .str [], .sl 2 [], .str [], .sl 5 R]]]] := by
 simp only [zel]
 refine zzw Tryz.call130 Tryz.func130 rfl (by kernel_rfl) (by simp only [List.length_cons, List.length_nil, Tryz.ntmps130]; omega) (by simp [zbo, T.isPin]) ?_
 simp -implicitDefEqProofs only [go_sem, Tryz.results130]
 refine za2 (by simp -implicitDefEqProofs only [go_sem]) ?_
 simp -implicitDefEqProofs only [go_sem]
def cbH (op : Int) (xs : List OF) (z : OF) : Nat -> St
 | 0 => hd [(3, .one (.bx 3 0)), (6, .one (.bx 6 0)), (7, .one (.bx 7 0)), (25, .one (.fn 191 [25]))]
   [(3, [.t (.int .i64 op)]), (6, [.t (.int .i64 0), .t (.str []), .nl 2, .t (.str []), .nl 5]), (7, (ofC (xs.getD (xs.length - 1) z)).map .t), (25, [.rn (.sl 5 ((xs.map ofC).take (xs.length - 1)))])] []
 | k + 1 => hd [(3, .one (.bx 3 0)), (6, .one (.bx 6 0)), (7, .one (.bx 7 0)), (25, .one (.fn 191 [25]))]
   [(3, [.t (.int .i64 op)]), (6, [.t (.int .i64 0), .t (.str []), .nl 2, .t (.str []), .nl 5]), (7, [.t (.int .i64 op), .t (.str []), .ow 994 0, .t (.str []), .ow 996 0]), (25, [.rn (.sl 5 ((xs.map ofC).take (xs.length - 1)))])]
   [(994, ⟨true, 2, [], 0, true⟩), (996, ⟨true, 5, [ofC (xs.getD (xs.length - 1 - 1 - k) z), jnC op (xs.drop (xs.length - 1 - k))], 0, true⟩)]
set_option maxHeartbeats 1000000 in
theorem zlk (op : Int) (xs : List OF) (z : OF) : FC Tryz.prog 71 [iD op, .one (.sl 5 (xs.map ofC)), .agg (ofC z)] [.agg (if xs = [] then ofC z else jnC op xs)] := by
 cases hx : xs with
 | nil =>
  simp only [if_true, List.map_nil, ofC]
  refine zzh Tryz.call71 Tryz.func71 rfl rfl (by kernel_rfl) (zav (by kernel_rfl)) ?_
  simp -implicitDefEqProofs only [go_sem, Tryz.results71]
 | cons x0 r0 =>
  rw [<- hx]
  have hne : xs ≠ [] := by rw [hx]; simp
  have hn : 0 < xs.length := by rw [hx]; simp
  refine zc1 (fun hw => ?_) Tryz.call71
  have hl : xs.length <= 9223372036854775807 := by simpa [zf5, wfT] using hw.2.1.1
  clear hw hx
  have e0 : ((xs.length : Int) == 0) = false := by simp; omega
  have e1 : IntKind.i64.wrap ((xs.length : Int) - 1) = ((xs.length - 1 : Nat) : Int) := by rw [zbc (by omega) (by omega)]; omega
  have hi : xs.length - 1 < xs.length := by omega
  rw [if_neg hne]
  simp only [ofC]
  refine zzh Tryz.call71 Tryz.func71 rfl rfl (by kernel_rfl) (zav (by kernel_rfl)) ?_
  simp -implicitDefEqProofs only [go_sem, Tryz.results71, e0, e1, hi, zai, List.length_map, zel]
  refine ⟨by omega, ?_⟩
  refine callB (sz := 5) (rows := (xs.map ofC).take (xs.length - 1)) zku (by simp -implicitDefEqProofs only [go_sem]) ?_
  simp -implicitDefEqProofs only [go_sem]
  have hlen : ((xs.map ofC).take (xs.length - 1)).length = xs.length - 1 := by simp
  have hlast : xs.getD (xs.length - 1) z = xs[xs.length - 1] := by simp [hi]
  refine loopB zl6 Tryz.call191 25 (cbH op xs z) ((xs.map ofC).take (xs.length - 1)) (by kernel_rfl) rfl (fun k => by cases k <;> exact ⟨rfl, rfl⟩) (fun k => by cases k <;> exact ⟨rfl, rfl, rfl, rfl, rfl, rfl, rfl, trivial⟩) (zab (by simp -implicitDefEqProofs only [go_sem, hlast, zel])) ?_ ?_
  ·intro k hk
   rw [hlen] at hk ⊢
   have hrow : ((xs.map ofC).take (xs.length - 1)).getD (xs.length - 1 - 1 - k) [] = ofC (xs.getD (xs.length - 1 - 1 - k) z) := by
    have h1 : xs.length - 1 - 1 - k < xs.length - 1 := by omega
    have h2 : xs.length - 1 - 1 - k < xs.length := by omega
    simp [List.getD, List.getElem?_take, h1, h2]
   rw [hrow]
   have hd1 : xs.drop (xs.length - 1) = [xs.getD (xs.length - 1) z] := by
    rw [List.drop_eq_getElem_cons hi, List.drop_of_length_le (by omega), hlast]
   cases k with
   | zero =>
    simp only [cbH, qi5, if_true, Nat.sub_zero]
    simp -implicitDefEqProofs only [go_sem, zel, qi5, T.toN]
    refine callF (qek op (xs.getD (xs.length - 1 - 1) z) (xs.getD (xs.length - 1) z)) (by simp -implicitDefEqProofs only [go_sem, zel]) ?_
    simp -implicitDefEqProofs only [go_sem, zel]
    refine zab ?_
    rw [hd1]
    simp -implicitDefEqProofs only [go_sem, jnC, zel]
   | succ k =>
    have hdk : xs.drop (xs.length - 1 - (k + 1)) = xs.getD (xs.length - 1 - 1 - k) z :: xs.drop (xs.length - 1 - k) := by
     have h1 : xs.length - 1 - (k + 1) < xs.length := by omega
     rw [List.drop_eq_getElem_cons h1, show xs.length - 1 - (k + 1) + 1 = xs.length - 1 - k by omega]
     congr 1
     rw [show xs.length - 1 - 1 - k = xs.length - 1 - (k + 1) by omega]
     simp [h1]
    have hdn : xs.drop (xs.length - 1 - k) ≠ [] := by
     intro e
     have := congrArg List.length e
     simp at this; omega
    simp only [cbH, qi5, if_true]
    rw [hdk, zm1 op _ hdn]
    generalize xs.getD (xs.length - 1 - 1 - (k + 1)) z = x
    generalize xs.getD (xs.length - 1 - 1 - k) z = y
    generalize jnC op (xs.drop (xs.length - 1 - k)) = J
    simp -implicitDefEqProofs only [go_sem, zel x, T.toN]
    refine callG [(28, vI op), (29, .agg ((ofC x).map .t)), (30, .agg [.t (.int .i64 op), .t (.str []), .ow 994 0, .t (.str []), .ow 996 0])]
     [(3, .one (.bx 3 0)), (6, .one (.bx 6 0)), (7, .one (.bx 7 0)), (25, .one (.fn 191 [25]))] []
     [(3, [.t (.int .i64 op)]), (6, [.t (.int .i64 0), .t (.str []), .nl 2, .t (.str []), .nl 5]), (7, [.any, .any, .any, .any, .any]), (25, [.rn (.sl 5 ((xs.map ofC).take (xs.length - 1)))])]
     [(994, ⟨true, 2, [], 0, true⟩), (996, ⟨true, 5, [ofC y, J], 0, true⟩)] [] [] (qdt op op x [ofC y, J]) (by simp -implicitDefEqProofs only [go_sem, zel x]) (by simp -implicitDefEqProofs only [go_sem]) (by simp -implicitDefEqProofs only [go_sem, zel x]) (by simp -implicitDefEqProofs only [go_sem]) ?_
    simp -implicitDefEqProofs only [go_sem]
    refine zab ?_
    simp -implicitDefEqProofs only [go_sem, zel x]
  ·rw [hlen]
   cases hm : xs.length - 1 with
   | zero =>
    have hx1 : xs = [xs.getD (xs.length - 1) z] := by
     rw [hlast]
     have : xs.length = 1 := by omega
     match xs, this with
     | [x], _ => rfl
    rw [hm] at hx1
    rw [hx1]
    generalize xs.getD 0 z = x
    show ex _ _ _ _ (cbH op [x] z 0)
    simp only [cbH]
    simp -implicitDefEqProofs only [go_sem, jnC, zel, Tryz.results71]
   | succ m =>
    have h0 : 0 < xs.length := hn
    have hx2 : jnC op xs = [.int .i64 op, .str [], .sl 2 [], .str [], .sl 5 [ofC (xs.getD 0 z), jnC op (xs.drop 1)]] := by
     match xs, hm with
     | x :: r, hm =>
      rw [zm1 op x (by intro e; rw [e] at hm; simp at hm)]
      rfl
    rw [hx2]
    simp only [cbH]
    rw [show xs.length - 1 - 1 - m = 0 by omega, show xs.length - 1 - m = 1 by omega]
    generalize xs.getD 0 z = x
    generalize jnC op (xs.drop 1) = J
    simp -implicitDefEqProofs only [go_sem, Tryz.results71]
end Go.Proofs.YtemnhgmgeijkcaaGreat
namespace Go.Proofs.YtemnhgmgeijkcaaGreat
set_option linter.unusedSimpArgs false
set_option linter.unusedVariables false
set_option linter.unusedSectionVars false
set_option maxRecDepth 4000
open Go.RowKit
def zc4 (op : Int) : List Fm -> Fm -> Fm
 | [], z => z
 | [x], _ => x
 | x :: xs, z => mkF op [x, zc4 op xs z]
theorem zd9 (op : Int) (x : Fm) {xs : List Fm} (h : xs ≠ []) (z : Fm) : zc4 op (x :: xs) z = mkF op [x, zc4 op xs z] := by
 cases xs with
 | nil => exact absurd rfl h
 | cons y ys => rfl
theorem of_fm {w : World} {x : Fm} {vs : List Value} {f : List Nat} (h : zau w (fmC x) vs f) : ∃ y : OF, (∀ A : Nat -> Prop, zae w A (ofC y) vs) /\ ∀ w' : World, (∀ b ∈ f, w'.heap[b]? = w.heap[b]?) -> zjd w' (ofC y) (fmC x) f := by
 rw [zac] at h ⊢
 obtain ⟨v1, _, f1, _, rfl, rfl, h1, h⟩ := h
 obtain ⟨v2, _, f2, _, rfl, rfl, h2, h⟩ := h
 obtain ⟨v3, _, f3, _, rfl, rfl, h3, h⟩ := h
 obtain ⟨v4, _, f4, _, rfl, rfl, h4, h⟩ := h
 obtain ⟨v5, _, f5, _, rfl, rfl, h5, h⟩ := h
 obtain ⟨rfl, rfl⟩ := h
 unfold zaw at h1 h2 h4
 obtain ⟨rfl, n1, n2, rfl⟩ := h1
 obtain ⟨rfl, n3, rfl⟩ := h2
 obtain ⟨rfl, n4, rfl⟩ := h4
 have g3 := h3
 have g5 := h5
 unfold zaw at g3 g5
 obtain ⟨a3, c3, rfl, _⟩ := g3
 obtain ⟨a5, c5, rfl, _⟩ := g5
 refine ⟨⟨x.op, x.atom.name, (a3, (x.atom.args.map tmC).length, c3), x.var, (a5, (x.parts.map fmC).length, c5)⟩, fun A => ?_, fun w' hs => ?_⟩
 ·unfold ofC
  simp only [zae, zao]
  exact ⟨_, _, rfl, ⟨rfl, n1, n2⟩, _, _, rfl, ⟨rfl, n3⟩, _, _, rfl, rfl, _, _, rfl, ⟨rfl, n4⟩, _, _, rfl, rfl, rfl⟩
 ·unfold ofC
  simp only [zjd, GrT]
  refine ⟨_, _, [], _, rfl, rfl, ⟨rfl, rfl⟩, _, _, [], _, rfl, rfl, ⟨rfl, rfl⟩, _, _, f3, _, rfl, rfl, zaw.keep _ _ _ h3 fun b hb => hs b (by simp [hb]), _, _, [], _, rfl, rfl, ⟨rfl, rfl⟩, _, _, f5, _, rfl, rfl, zaw.keep _ _ _ h5 fun b hb => hs b (by simp [hb]), rfl, rfl⟩
theorem qj4 {w : World} {cells : Array Value} {b : Nat} {ty : TypeId} (hc : w.heap[b]? = some (.cells cells ty (0, 0))) : ∀ {xs : List Fm} {o : Nat} {fps : List Nat}, zag w cells o 5 (xs.map fmC) fps →
  ∃ ys : List OF, ys.length = xs.length /\ (∀ A : Nat -> Prop, zap w A b o 5 (ys.map ofC)) /\ ∀ w' : World, (∀ b ∈ fps, w'.heap[b]? = w.heap[b]?) -> zcg w' (ys.map ofC) (xs.map fmC) fps
 | [], o, fps, h => by
  rw [List.map_nil] at h
  unfold zag at h
  subst h
  exact ⟨[], rfl, fun A => by rw [List.map_nil]; unfold zap; trivial, fun w' _ => by rw [List.map_nil, List.map_nil]; unfold zcg; exact ⟨rfl, rfl⟩⟩
 | x :: xs, o, fps, h => by
  rw [List.map_cons] at h
  unfold zag at h
  obtain ⟨h1, f1, f2, rfl, h2, h3⟩ := h
  obtain ⟨vs, k1, k2, k3⟩ := h2.vals
  obtain ⟨y, l1, l2⟩ := of_fm k3
  obtain ⟨ys, m1, m2, m3⟩ := qj4 hc h3
  refine ⟨y :: ys, by simp [m1], fun A => ?_, fun w' hs => ?_⟩
  ·rw [List.map_cons]
   unfold zap
   refine ⟨rfl, za8.mk fun j c hj => ?_, m2 A⟩
   obtain ⟨v, q1, q2⟩ := (l1 A).at j c hj
   exact ⟨v, by simp [World.cell?, hc, k2 j v q1], q2⟩
  ·rw [List.map_cons, List.map_cons]
   unfold zcg
   exact ⟨_, _, f1, f2, rfl, rfl, l2 w' fun b hb => hs b (by simp [hb]), m3 w' fun b hb => hs b (by simp [hb])⟩
theorem qd8 {w : World} (op : Int) (z : Fm) : ∀ {xs : List Fm} {ys : List OF} {fps : List Nat}, xs ≠ [] -> zcg w (ys.map ofC) (xs.map fmC) fps -> zjd w (jnC op ys) (fmC (zc4 op xs z)) fps
 | [], _, _, h, _ => absurd rfl h
 | x :: xs, [], _, _, h => by rw [List.map_nil, List.map_cons] at h; unfold zcg at h; exact absurd h.1 (by simp)
 | x :: xs, y :: ys, fps, _, h => by
  rw [List.map_cons, List.map_cons] at h
  unfold zcg at h
  obtain ⟨r', rs', e1, e2, h0, rfl, h1, h2⟩ := h
  simp only [List.cons.injEq] at h0
  obtain ⟨rfl, rfl⟩ := h0
  have hlen := h2.len
  simp only [List.length_map] at hlen
  by_cases hx : xs = []
  ·subst hx
   have hy : ys = [] := List.length_eq_zero_iff.1 (by simpa using hlen.symm)
   subst hy
   rw [List.map_nil, List.map_nil] at h2
   unfold zcg at h2
   rw [h2.2, List.append_nil]
   exact h1
  ·have hy : ys ≠ [] := fun e => hx (List.length_eq_zero_iff.1 (by rw [hlen, e]; rfl))
   rw [zm1 op y hy, zd9 op x hx, zbw, List.map_cons, List.map_cons, List.map_nil]
   have h3 := qd8 op z hx h2
   simp only [zjd, GrT, zcg]
   exact ⟨_, _, [], _, rfl, rfl, ⟨rfl, rfl⟩, _, _, [], _, rfl, rfl, ⟨rfl, rfl⟩, _, _, [], _, rfl, rfl, ⟨[], rfl, rfl, rfl⟩, _, _, [], _, rfl, rfl, ⟨rfl, rfl⟩, _, _, e1 ++ e2, [], rfl, by simp, ⟨_, rfl, _, _, e1, e2, rfl, rfl, h1, _, _, e2, [], rfl, by simp, h3, rfl, rfl⟩, rfl, rfl⟩
theorem zw6 (op : Int) (xs : List Fm) (z : Fm) : GC Tryz.prog 71 [(false, iD op), (true, .one (fmS xs)), (true, fmD z)] [fmD (zc4 op xs z)] := by
 refine zrb Tryz.call71 fun w vs fp tp hv hn => ?_
 obtain ⟨v1, _, rfl, h1, hv⟩ := hv
 obtain ⟨v2, _, f2, _, t2, _, rfl, rfl, rfl, h2, hv⟩ := hv
 obtain ⟨v3, _, f3, _, t3, _, rfl, rfl, rfl, h3, hv⟩ := hv
 obtain ⟨rfl, rfl, rfl⟩ := hv
 obtain ⟨a, rfl, h3⟩ := h3
 have h2 : zaw w (fmS xs) v2 f2 := h2.1
 have h3 : zau w (fmC z) a f3 := zau.of_g h3
 obtain ⟨y, k1, k2⟩ := of_fm h3
 have hlt3 : ∀ b ∈ f3, b < w.heap.size := zau.lt h3
 have hlt2 : ∀ b ∈ f2, b < w.heap.size := zaw.lt _ _ _ h2
 have hi : zw3 w (fun b => b < w.heap.size) (iD op) v1 := by
  have : za9 w (fun b => b < w.heap.size) [iD op] [v1] := za9.keep (fun _ _ => rfl) (fun b hb => hb.1) (⟨v1, [], rfl, h1, rfl⟩ : za9 w (fun b => b < w.heap.size /\ b ∉ f2 ++ (f3 ++ [])) [iD op] [v1])
  obtain ⟨_, _, e, h4, _⟩ := this
  cases e; exact h4
 obtain ⟨n1, n2, -⟩ := List.nodup_append.1 hn
 rw [List.append_nil] at n2
 have hS : ∃ (ys : List OF) (f : List Nat), ys.length = xs.length /\ f.Nodup /\ (∀ b ∈ f, b ∈ f2) /\ zao w (fun b => b < w.heap.size) (.sl 5 (ys.map ofC)) v2 /\ ∀ w' : World, (∀ b ∈ f, w'.heap[b]? = w.heap[b]?) -> zcg w' (ys.map ofC) (xs.map fmC) f := by
  unfold fmS at h2
  unfold zaw at h2
  obtain ⟨ao, cap, rfl, q1, q2, q3⟩ := h2
  rw [List.length_map] at q1
  rcases q3 with ⟨rfl, rfl, q3, rfl⟩ | ⟨b, cells, ty, fps, rfl, rfl, q3, q4, q5⟩
  ·have hx : xs = [] := by simpa using q3
   subst hx
   refine ⟨[], [], rfl, List.nodup_nil, fun b hb => hb, ?_, fun _ _ => by rw [List.map_nil, List.map_nil]; unfold zcg; exact ⟨rfl, rfl⟩⟩
   unfold zao
   exact ⟨none, 0, rfl, Nat.le_refl _, by simp, Or.inl rfl⟩
  ·obtain ⟨ys, r1, r2, r3⟩ := qj4 q3 q5
   refine ⟨ys, fps, r1, (List.nodup_cons.1 n1).2, fun b hb => by simp [hb], ?_, r3⟩
   unfold zao
   exact ⟨_, cap, by rw [List.length_map, List.length_map, r1], by rw [List.length_map, r1]; exact q1, q2, Or.inr ⟨b, 0, rfl, hlt2 b (by simp), r2 _⟩⟩
 obtain ⟨ys, f, r1, r4, r5, r2, r3⟩ := hS
 by_cases hx : xs = []
 ·subst hx
  have hy : ys = [] := List.length_eq_zero_iff.1 (by simpa using r1)
  refine ⟨[iD op, .one (.sl 5 (ys.map ofC)), .agg (ofC y)], _, f3, zlk op ys y, ⟨v1, _, rfl, hi, v2, _, rfl, r2, _, _, rfl, ⟨a, rfl, k1 _⟩, rfl⟩, n2, fun b hb => ⟨by simp [hb], hlt3 b hb⟩, fun w' hs => ?_⟩
  rw [if_pos hy]
  exact k2 w' hs
 ·have hy : ys ≠ [] := fun e => hx (List.length_eq_zero_iff.1 (by rw [<- r1, e]; rfl))
  refine ⟨[iD op, .one (.sl 5 (ys.map ofC)), .agg (ofC y)], _, f, zlk op ys y, ⟨v1, _, rfl, hi, v2, _, rfl, r2, _, _, rfl, ⟨a, rfl, k1 _⟩, rfl⟩, r4, fun b hb => ⟨by simp [r5 b hb], hlt2 b (r5 b hb)⟩, fun w' hs => ?_⟩
  rw [if_neg hy]
  exact qd8 op z hx (r3 w' hs)
end Go.Proofs.YtemnhgmgeijkcaaGreat
namespace Go.Proofs.YtemnhgmgeijkcaaGreat
set_option linter.unusedSimpArgs false
set_option linter.unusedVariables false
set_option linter.unusedSectionVars false
set_option maxRecDepth 4000
open Go.RowKit
def jS (op : Int) (xs : List Fm) (J : Fm) (i : Int) (a b : Nat) : St := hd [(0, vT (fmS xs)), (1, .one (.t (.int .i64 op))), (6, .one (.bx 6 0)), (7, .one (.bx 7 0)), (8, .one (.t (.int .i64 i)))]
 [(6, [.t (.int .i64 0), .t (.str []), .nl 2, .t (.str []), .nl 5]), (7, [.t (.int .i64 J.op), .t (.str J.atom.name), .ow a 0, .t (.str J.var), .ow b 0])] [(a, ⟨true, 2, J.atom.args.map tmC, 0, true⟩), (b, ⟨true, 5, J.parts.map fmC, 0, true⟩)]
theorem qkh (op : Int) (xs : List Fm) (J : Fm) (i : Int) : Wk (jS op xs J i 642 644) (jS op xs J i 2002 644) := zq4 642 2002 _ _ _
theorem qne (op : Int) (xs : List Fm) (J : Fm) (i : Int) : Wk (jS op xs J i 2002 644) (jS op xs J i 2002 2000) := zq4 644 2000 _ _ _
theorem qm8 (op : Int) (xs : List Fm) (J : Fm) (i : Int) : Wk (jS op xs J i 2003 1120) (jS op xs J i 2003 2000) := zq4 1120 2000 _ _ _
theorem qm5 (op : Int) (xs : List Fm) (J : Fm) (i : Int) : Wk (jS op xs J i 2003 2000) (jS op xs J i 2002 2000) := zq4 2003 2002 _ _ _
theorem mkF_op (o : Int) (ps : List Fm) : (mkF o ps).op = o := rfl
theorem qf7 (o : Int) (ps : List Fm) : (mkF o ps).atom.name = [] := rfl
theorem qf0 (o : Int) (ps : List Fm) : (mkF o ps).atom.args = [] := rfl
theorem qm6 (o : Int) (ps : List Fm) : (mkF o ps).var = [] := rfl
theorem qdn (o : Int) (ps : List Fm) : (mkF o ps).parts = ps := rfl
theorem zp8 (xs : List Fm) (op none : Int) (hs : xs.length <= 1099511627776) (hwt : ∀ k (h : k < xs.length), xs[k].wt <= 1048576) : FC Tryz.prog 115 [.one (fmS xs), iD op, iD none] [fmD (zc4 op xs (mkF none []))] := by
 by_cases hx : xs = []
 ·subst hx
  show FC _ _ _ [fmD (mkF none [])]
  simp only [fmD, zbw, List.map_nil, fmS]
  refine zaj Tryz.call115 Tryz.func115 rfl (by kernel_rfl) (zav (by kernel_rfl)) ?_
  simp -implicitDefEqProofs only [go_sem, Tryz.results115]
 ·have hn : 0 < xs.length := List.length_pos_iff.2 hx
  have e0 : ((xs.length : Int) == 0) = false := by simp; omega
  have e1 : IntKind.i64.wrap ((xs.length : Int) - 1) = ((xs.length - 1 : Nat) : Int) := by rw [zbc (by omega) (by omega)]; omega
  have e2 : IntKind.i64.wrap ((xs.length : Int) - 2) = (xs.length : Int) - 2 := zbc (by omega) (by omega)
  have hi : xs.length - 1 < xs.length := by omega
  have hR : ∃ R, zc4 op xs (mkF none []) = R := ⟨_, rfl⟩
  obtain ⟨R, hR⟩ := hR
  rw [hR]
  simp only [fmD, zac R]
  have hL := zac xs[xs.length - 1]
  refine zaj Tryz.call115 Tryz.func115 rfl (by kernel_rfl) (zav (by kernel_rfl)) ?_
  simp -implicitDefEqProofs only [go_sem, Tryz.results115, e0, e1, hi, zai, hL]
  refine callF (zss xs[xs.length - 1] (hwt _ hi)) (by simp -implicitDefEqProofs only [go_sem, zac xs[xs.length - 1], e2]) ?_
  simp -implicitDefEqProofs only [go_sem, zac xs[xs.length - 1], e2]
  have hd1 : zc4 op (xs.drop (xs.length - 1)) (mkF none []) = xs[xs.length - 1] := by
   rw [List.drop_eq_getElem_cons hi, List.drop_of_length_le (by omega)]; rfl
  refine zad (fun k : Nat => jS op xs (zc4 op (xs.drop (xs.length - 1 - k)) (mkF none [])) ((xs.length : Int) - 2 - k) 2002 2000) (fun k => k <= xs.length - 1) (fun k => xs.length - 1 - k) 0 (Wk.trans ?_ ((qkh _ _ _ _).trans (qne _ _ _ _))) (Nat.zero_le _) ?_
  ·rw [Nat.sub_zero, hd1]
   unfold jS
   refine zab ?_
   simp -implicitDefEqProofs only [go_sem]
   simp
  ·intro k hk
   by_cases hlt : k < xs.length - 1
   ·obtain ⟨m, hm⟩ : ∃ m, xs.length - 2 - k = m := ⟨_, rfl⟩
    have hml : m < xs.length := by omega
    have hge : ((0 : Int) <= (m : Int)) = True := by simp
    have hdk : zc4 op (xs.drop (xs.length - 1 - (k + 1))) (mkF none []) = mkF op [xs[m], zc4 op (xs.drop (xs.length - 1 - k)) (mkF none [])] := by
     rw [show xs.length - 1 - (k + 1) = m by omega, List.drop_eq_getElem_cons hml, show m + 1 = xs.length - 1 - k by omega]
     refine zd9 op _ ?_ _
     intro e
     have := congrArg List.length e
     simp at this; omega
    have hwm := hwt m hml
    have hnx : Wk (jS op xs (zc4 op (xs.drop (xs.length - 1 - (k + 1))) (mkF none [])) ((xs.length : Int) - 2 - ((k + 1 : Nat) : Int)) 2003 1120) (jS op xs (zc4 op (xs.drop (xs.length - 1 - (k + 1))) (mkF none [])) ((xs.length : Int) - 2 - ((k + 1 : Nat) : Int)) 2002 2000) := (qm8 _ _ _ _).trans (qm5 _ _ _ _)
    have e3 : IntKind.i64.wrap ((m : Int) - 1) = (xs.length : Int) - 2 - ((k + 1 : Nat) : Int) := by rw [zbc (by omega) (by omega)]; omega
    rw [show (xs.length : Int) - 2 - (k : Int) = (m : Int) by omega]
    generalize hJ : zc4 op (xs.drop (xs.length - 1 - k)) (mkF none []) = J at hdk ⊢
    generalize hX : xs[m] = x at hdk hwm
    have hxE := zac x
    unfold jS
    simp -implicitDefEqProofs only [go_sem, hge, zai, hml, hX, hxE]
    refine drawn (by kernel_rfl) ?_
    simp -implicitDefEqProofs only [go_sem, zai, hml, hX, hxE]
    refine za1 (zss x hwm) (by simp -implicitDefEqProofs only [go_sem, hxE]) ?_
    simp -implicitDefEqProofs only [go_sem, hxE]
    refine zbr (by simp -implicitDefEqProofs only [go_sem]) ?_
    simp -implicitDefEqProofs only [go_sem]
    refine ⟨by kernel_rfl, k + 1, by omega, by omega, Wk.trans ?_ hnx⟩
    rw [hdk]
    unfold jS
    refine zab ?_
    simp -implicitDefEqProofs only [go_sem, e3, mkF_op, qf7, qf0, qm6, qdn, List.map_cons, List.map_nil, hxE]
    rw [zac J]
   ·have hk2 : k = xs.length - 1 := by omega
    subst hk2
    have hlt0 : ((xs.length : Int) - 2 - ((xs.length - 1 : Nat) : Int)) = -1 := by omega
    rw [Nat.sub_self, List.drop_zero, hR, hlt0]
    unfold jS
    simp -implicitDefEqProofs only [go_sem]
end Go.Proofs.YtemnhgmgeijkcaaGreat
namespace Go.Proofs.YtemnhgmgeijkcaaGreat
set_option linter.unusedSimpArgs false
set_option linter.unusedVariables false
set_option linter.unusedSectionVars false
set_option maxRecDepth 4000
open Go.RowKit
def mtd : Nat -> Nat -> Str -> Str
 | 0, _, acc => acc
 | fuel + 1, n, acc => if n = 0 then acc else mtd fuel (n / 10) (UInt8.ofNat (48 + n % 10) :: acc)
def mtx (k : Nat) : Str := 109 :: mtd (k + 1) k []
theorem zmx (fuel n : Nat) (acc : Str) (h : 0 < n) : mtd (fuel + 1) n acc = mtd fuel (n / 10) (UInt8.ofNat (48 + n % 10) :: acc) := by rw [mtd, if_neg (by omega)]
theorem zte : ∀ (f f' n : Nat) (acc : Str), n < f -> n < f' -> mtd f n acc = mtd f' n acc
 | 0, _, n, _, h, _ => absurd h (by omega)
 | _ + 1, 0, n, _, _, h => absurd h (by omega)
 | f + 1, f' + 1, n, acc, h, h' => by
  by_cases h0 : n = 0
  ·simp [mtd, h0]
  ·rw [zmx _ _ _ (by omega), zmx _ _ _ (by omega)]
   exact zte f f' _ _ (by omega) (by omega)
theorem qkz {n : Nat} (h : n < 256) : IntKind.u8.wrap (n : Int) = n := by
 have e : IntKind.u8.wrap (n : Int) = (n : Int) % 256 := rfl
 rw [e]; omega
theorem zhr (k : Nat) (hk0 : 0 < k) (hk : k <= 4611686018427387904) : FC Tryz.prog 131 [iD k] [sD (mtx k)] := by
 have h0 : ((k : Int) <= 0) = False := by simp; omega
 refine zaj Tryz.call131 Tryz.func131 rfl (by kernel_rfl) (zav (by kernel_rfl)) ?_
 simp -implicitDefEqProofs only [go_sem, Tryz.results131, h0]
 refine zad (fun (x : Nat × Str) => hd [(0, vI x.1), (3, vT (.str x.2))] [] []) (fun x => mtx k = 109 :: mtd (x.1 + 1) x.1 x.2 /\ x.1 * 10 ^ x.2.length <= k /\ x.2.length <= 19) (fun x => x.1) (k, []) (zab ?_) ?_ ?_
 ·simp -implicitDefEqProofs only [go_sem]
 ·exact ⟨rfl, by simp, by simp⟩
 ·intro ⟨n, s⟩ ⟨h1, h2, hl⟩
  have hl : s.length <= 19 := hl
  have hn : n <= k := Nat.le_trans (Nat.le_mul_of_pos_right _ (Nat.pow_pos (by omega))) h2
  have hs : s.length <= 18 \/ n = 0 := by
   by_cases h : n = 0
   ·exact Or.inr h
   ·left
    refine Nat.le_of_not_lt fun hl => ?_
    have : 10 ^ 19 <= 10 ^ s.length := Nat.pow_le_pow_right (by omega) (by omega)
    have : 1 * 10 ^ s.length <= n * 10 ^ s.length := Nat.mul_le_mul_right _ (by omega)
    have h2 : n * 10 ^ s.length <= k := h2
    omega
  by_cases hp : 0 < n
  ·have hp' : ((n : Int) > 0) = True := by simp; omega
   have e1 : (n : Int).tmod 10 = ((n % 10 : Nat) : Int) := by rw [Int.tmod_eq_emod_of_nonneg (by omega)]; omega
   have e2 : (n : Int).tdiv 10 = ((n / 10 : Nat) : Int) := by rw [Int.tdiv_eq_ediv_of_nonneg (by omega)]; omega
   have e3 : IntKind.i64.wrap (48 + ((n % 10 : Nat) : Int)) = ((48 + n % 10 : Nat) : Int) := by rw [zbc (by omega) (by omega)]; omega
   have e4 : IntKind.u8.wrap ((48 + n % 10 : Nat) : Int) = ((48 + n % 10 : Nat) : Int) := qkz (by omega)
   have e5 : IntKind.i64.wrap ((n / 10 : Nat) : Int) = ((n / 10 : Nat) : Int) := zbc (by omega) (by omega)
   simp -implicitDefEqProofs only [go_sem, hp', e1, e2, e3, e4, e5]
   refine ⟨by omega, ?_⟩
   refine za2 (by simp -implicitDefEqProofs only [go_sem]) ?_
   simp -implicitDefEqProofs only [go_sem]
   have hs' : s.length <= 18 := by omega
   refine ⟨by omega, by omega, (n / 10, UInt8.ofNat (48 + n % 10) :: s), ⟨?_, ?_, show s.length + 1 <= 19 by omega⟩, by omega, zab (by simp -implicitDefEqProofs only [go_sem, e2, e5])⟩
   ·rw [h1]
    show (109 :: mtd (n + 1) n s : Str) = 109 :: mtd (n / 10 + 1) (n / 10) (UInt8.ofNat (48 + n % 10) :: s)
    rw [zmx _ _ _ hp, zte n (n / 10 + 1) _ _ (by omega) (by omega)]
   ·show n / 10 * 10 ^ (s.length + 1) <= k
    rw [Nat.pow_succ, Nat.mul_comm _ 10, <- Nat.mul_assoc]
    exact Nat.le_trans (Nat.mul_le_mul_right _ (by omega)) h2
  ·have h0' : n = 0 := by omega
   subst h0'
   simp -implicitDefEqProofs only [go_sem]
   refine ⟨by omega, ?_⟩
   rw [h1]; simp [mtd]
end Go.Proofs.YtemnhgmgeijkcaaGreat
namespace Go.Proofs.YtemnhgmgeijkcaaGreat
set_option linter.unusedSimpArgs false
set_option linter.unusedVariables false
set_option linter.unusedSectionVars false
set_option maxRecDepth 4000
open Go.RowKit
mutual
def zig : Tm -> Nat -> Tm × Nat
 | .mk n0 s0, k => (.mk (mtx k) (zbf s0 (k + 1)).1, (zbf s0 (k + 1)).2)
def zbf : List Tm -> Nat -> List Tm × Nat
 | [], k => ([], k)
 | a :: xs, k => ((zig a k).1 :: (zbf xs (zig a k).2).1, (zbf xs (zig a k).2).2)
end
mutual
def zic : Tm -> Nat
 | .mk n0 s0 => 1 + 1 + zeh s0
def zeh : List Tm -> Nat
 | [] => 0
 | a :: xs => zic a + zeh xs
end
mutual
theorem zyr : ∀ (a : Tm) (k : Nat), k <= (zig a k).2 /\ (zig a k).2 <= k + zic a
 | .mk n0 s0, k => by have h_s0 := zdp s0 (k + 1); simp only [zig, zic]; omega
theorem zdp : ∀ (xs : List Tm) (k : Nat), k <= (zbf xs k).2 /\ (zbf xs k).2 <= k + zeh xs
 | [], k => ⟨Nat.le_refl _, Nat.le_refl _⟩
 | a :: xs, k => by have h1 := zyr a k; have h2 := zdp xs (zig a k).2; simp only [zbf, zeh]; omega
end
theorem zp3 : ∀ xs : List Tm, xs.length <= zeh xs
  | [] => Nat.le_refl _
  | a :: xs => by have := zp3 xs; have : 1 <= zic a := by obtain ⟨n0, s0⟩ := a; simp only [zic]; omega
                  simp only [List.length_cons, zeh]; omega
theorem zh4 (xs : List Tm) (H : ∀ a ∈ xs, ∀ k : Nat, 0 < k -> k + zeh a.args <= 4611686018427387904 -> IC Tryz.prog 77 [] (.one (tmS a.args)) [iD k] (.one (tmS (zbf a.args k).1)) [iD (zbf a.args k).2]) :
  ∀ k : Nat, 0 < k -> k + zeh xs <= 4611686018427387904 -> IC Tryz.prog 77 [] (.one (tmS xs)) [iD k] (.one (tmS (zbf xs k).1)) [iD (zbf xs k).2] := by
 intro k h0 hk
 refine zt7 Tryz.call77 Tryz.func77 rfl (by kernel_rfl) (by simp only [zdo, rd, List.map_cons, List.map_nil, List.nil_append, List.length_cons, List.length_nil, Tryz.ntmps77]; omega) (by simp only [Tryz.ntmps77]; omega) (fun vs => ?_)
 simp -implicitDefEqProofs only [go_sem, Tryz.results77, qan, zko, zdo, PI]
 refine zad (fun (x : List Tm × List Tm × Nat) => hd [(0, .one (.ow 0 0)), (1000000, .one (.ow 0 0)), (1, vI x.2.2), (5, vI x.1.length)] [] [(0, ⟨true, 2, x.1.map tmC ++ ze9 vs x.1.length (x.2.1.map tmC), 0, true⟩)])
  (fun x => (zbf xs k).1 = x.1 ++ (zbf x.2.1 x.2.2).1 /\ (zbf xs k).2 = (zbf x.2.1 x.2.2).2 /\ 0 < x.2.2 /\ x.2.2 + zeh x.2.1 <= 4611686018427387904 /\ x.1.length + x.2.1.length = xs.length /\ ∀ a ∈ x.2.1, a ∈ xs) (fun x => x.2.1.length) ([], xs, k) (zab ?_) ?_ ?_
 ·simp -implicitDefEqProofs only [go_sem]
 ·exact ⟨rfl, rfl, h0, hk, by simp, fun _ h => h⟩
 ·intro ⟨dn, rest, kk⟩ ⟨h1, h2, h3, h4, h6, h5⟩
  simp only at h1 h2 h3 h4 h5 h6
  cases rest with
  | nil =>
   simp only [zbf, List.append_nil] at h1 h2
   simp -implicitDefEqProofs only [go_sem, h1, h2]
  | cons a rest =>
   obtain ⟨n0, s0⟩ := a
   simp only [zbf, zig, zeh, zic] at h1 h2 h4
   have hc_s0 := zdp s0 (kk + 1)
   have w0 : IntKind.i64.wrap (((kk : Nat) : Int) + 1) = ((kk + 1 : Nat) : Int) := zak (by omega)
   have hln := zp3 xs
   rw [List.length_cons] at h6
   have wl : IntKind.i64.wrap ((dn.length : Int) + 1) = ((dn.length + 1 : Nat) : Int) := zak (by omega)
   simp -implicitDefEqProofs only [go_sem, zaa (.mk _ _), Tm.name, Tm.args]
   refine callF (zhr kk (by omega) (by omega)) (by simp -implicitDefEqProofs only [go_sem, w0]) ?_
   simp -implicitDefEqProofs only [go_sem, w0]
   refine zge (by simp -implicitDefEqProofs only [go_sem, implies_true, w0]) ?_
   simp -implicitDefEqProofs only [go_sem, implies_true, w0]
   refine callN (l := [(0, .one (.ow 0 0)), (1000000, .one (.ow 0 0)), (5, vI dn.length), (24, .one (.cv (vs dn.length 1))), (25, vI ((kk + 1) : Nat))]) (bl := []) (el := [(0, ⟨true, 2, dn.map tmC ++ [.str (mtx kk), .pin (vs dn.length 1) (tmS s0)] :: ze9 vs (dn.length + 1) (rest.map tmC), 0, true⟩)]) 0 dn.length 1 (H (.mk n0 s0) (h5 _ (by simp)) (kk + 1) (by omega) (by show (kk + 1) + zeh s0 <= _; omega)) (by simp -implicitDefEqProofs only [go_sem, w0, tmS]) rfl rfl rfl (by simp -implicitDefEqProofs only [go_sem, tmS, Tm.name, Tm.args]) rfl ?_
   simp -implicitDefEqProofs only [go_sem, w0, Tm.name, Tm.args]
   refine ⟨(dn ++ [.mk (mtx kk) (zbf s0 (kk + 1)).1], rest, (zbf s0 (kk + 1)).2), ⟨by simpa using h1, h2, by show 0 < (zbf s0 (kk + 1)).2; omega, by show (zbf s0 (kk + 1)).2 + zeh rest <= _; omega, by simp; omega, fun b hb => h5 b (by simp [hb])⟩, by simp, zab ?_⟩
   simp -implicitDefEqProofs only [go_sem, wl, zaa (.mk _ _), Tm.name, Tm.args, List.map_append, List.append_assoc]
theorem zgm (xs : List Tm) (k : Nat) (h0 : 0 < k) (hk : k + zeh xs <= 4611686018427387904) : IC Tryz.prog 77 [] (.one (tmS xs)) [iD k] (.one (tmS (zbf xs k).1)) [iD (zbf xs k).2] :=
 zh4 xs (fun a _ => zba (P := fun a => ∀ k : Nat, 0 < k -> k + zeh a.args <= 4611686018427387904 -> IC Tryz.prog 77 [] (.one (tmS a.args)) [iD k] (.one (tmS (zbf a.args k).1)) [iD (zbf a.args k).2]) (fun n ys ih => zh4 ys ih) a) k h0 hk
mutual
def zik : Fm -> Nat -> Fm × Nat
 | .mk o0 (.mk n0 s0) v0 p0, k => (.mk ((k : Nat) : Int) (.mk (mtx (k + 1)) (zbf s0 ((k + 1) + 1)).1) (mtx (zbf s0 ((k + 1) + 1)).2) (zc7 p0 ((zbf s0 ((k + 1) + 1)).2 + 1)).1, (zc7 p0 ((zbf s0 ((k + 1) + 1)).2 + 1)).2)
def zc7 : List Fm -> Nat -> List Fm × Nat
 | [], k => ([], k)
 | a :: xs, k => ((zik a k).1 :: (zc7 xs (zik a k).2).1, (zc7 xs (zik a k).2).2)
end
mutual
def zh8 : Fm -> Nat
 | .mk o0 (.mk n0 s0) v0 p0 => 1 + 1 + 1 + zeh s0 + 1 + zfa p0
def zfa : List Fm -> Nat
 | [] => 0
 | a :: xs => zh8 a + zfa xs
end
mutual
theorem qdr : ∀ (a : Fm) (k : Nat), k <= (zik a k).2 /\ (zik a k).2 <= k + zh8 a
 | .mk o0 (.mk n0 s0) v0 p0, k => by have h_s0 := zdp s0 ((k + 1) + 1); have h_p0 := zgt p0 ((zbf s0 ((k + 1) + 1)).2 + 1); simp only [zik, zh8]; omega
theorem zgt : ∀ (xs : List Fm) (k : Nat), k <= (zc7 xs k).2 /\ (zc7 xs k).2 <= k + zfa xs
 | [], k => ⟨Nat.le_refl _, Nat.le_refl _⟩
 | a :: xs, k => by have h1 := qdr a k; have h2 := zgt xs (zik a k).2; simp only [zc7, zfa]; omega
end
theorem zqq : ∀ xs : List Fm, xs.length <= zfa xs
  | [] => Nat.le_refl _
  | a :: xs => by have := zqq xs; have : 1 <= zh8 a := by obtain ⟨o0, ⟨n0, s0⟩, v0, p0⟩ := a; simp only [zh8]; omega
                  simp only [List.length_cons, zfa]; omega
theorem zfj (xs : List Fm) (H : ∀ a ∈ xs, ∀ k : Nat, 0 < k -> k + zfa a.parts <= 4611686018427387904 -> IC Tryz.prog 76 [] (.one (fmS a.parts)) [iD k] (.one (fmS (zc7 a.parts k).1)) [iD (zc7 a.parts k).2]) :
  ∀ k : Nat, 0 < k -> k + zfa xs <= 4611686018427387904 -> IC Tryz.prog 76 [] (.one (fmS xs)) [iD k] (.one (fmS (zc7 xs k).1)) [iD (zc7 xs k).2] := by
 intro k h0 hk
 refine zt7 Tryz.call76 Tryz.func76 rfl (by kernel_rfl) (by simp only [zdo, rd, List.map_cons, List.map_nil, List.nil_append, List.length_cons, List.length_nil, Tryz.ntmps76]; omega) (by simp only [Tryz.ntmps76]; omega) (fun vs => ?_)
 simp -implicitDefEqProofs only [go_sem, Tryz.results76, qan, zko, zdo, PI]
 refine zad (fun (x : List Fm × List Fm × Nat) => hd [(0, .one (.ow 0 0)), (1000000, .one (.ow 0 0)), (1, vI x.2.2), (5, vI x.1.length)] [] [(0, ⟨true, 5, x.1.map fmC ++ ze9 vs x.1.length (x.2.1.map fmC), 0, true⟩)])
  (fun x => (zc7 xs k).1 = x.1 ++ (zc7 x.2.1 x.2.2).1 /\ (zc7 xs k).2 = (zc7 x.2.1 x.2.2).2 /\ 0 < x.2.2 /\ x.2.2 + zfa x.2.1 <= 4611686018427387904 /\ x.1.length + x.2.1.length = xs.length /\ ∀ a ∈ x.2.1, a ∈ xs) (fun x => x.2.1.length) ([], xs, k) (zab ?_) ?_ ?_
 ·simp -implicitDefEqProofs only [go_sem]
 ·exact ⟨rfl, rfl, h0, hk, by simp, fun _ h => h⟩
 ·intro ⟨dn, rest, kk⟩ ⟨h1, h2, h3, h4, h6, h5⟩
  simp only at h1 h2 h3 h4 h5 h6
  cases rest with
  | nil =>
   simp only [zc7, List.append_nil] at h1 h2
   simp -implicitDefEqProofs only [go_sem, h1, h2]
  | cons a rest =>
   obtain ⟨o0, ⟨n0, s0⟩, v0, p0⟩ := a
   simp only [zc7, zik, zfa, zh8] at h1 h2 h4
   have hc_s0 := zdp s0 ((kk + 1) + 1)
   have hc_p0 := zgt p0 ((zbf s0 ((kk + 1) + 1)).2 + 1)
   have w0 : IntKind.i64.wrap (((kk : Nat) : Int) + 1) = ((kk + 1 : Nat) : Int) := zak (by omega)
   have w1 : IntKind.i64.wrap ((((kk + 1) : Nat) : Int) + 1) = (((kk + 1) + 1 : Nat) : Int) := zak (by omega)
   have w2 : IntKind.i64.wrap ((((zbf s0 ((kk + 1) + 1)).2 : Nat) : Int) + 1) = (((zbf s0 ((kk + 1) + 1)).2 + 1 : Nat) : Int) := zak (by omega)
   have hln := zqq xs
   rw [List.length_cons] at h6
   have wl : IntKind.i64.wrap ((dn.length : Int) + 1) = ((dn.length + 1 : Nat) : Int) := zak (by omega)
   simp -implicitDefEqProofs only [go_sem, zac (.mk _ _ _ _), Fm.op, Fm.atom, Fm.var, Fm.parts, Tm.name, Tm.args]
   refine zge (by simp -implicitDefEqProofs only [go_sem, implies_true, w0, w1, w2]) ?_
   simp -implicitDefEqProofs only [go_sem, implies_true, w0, w1, w2]
   refine callF (zhr (kk + 1) (by omega) (by omega)) (by simp -implicitDefEqProofs only [go_sem, w0, w1, w2]) ?_
   simp -implicitDefEqProofs only [go_sem, w0, w1, w2]
   refine zge (by simp -implicitDefEqProofs only [go_sem, implies_true, w0, w1, w2]) ?_
   simp -implicitDefEqProofs only [go_sem, implies_true, w0, w1, w2]
   refine callN (l := [(0, .one (.ow 0 0)), (1000000, .one (.ow 0 0)), (5, vI dn.length), (33, .one (.cv (vs dn.length 2))), (34, vI (((kk + 1) + 1) : Nat))]) (bl := []) (el := [(0, ⟨true, 5, dn.map fmC ++ [.int .i64 ((kk : Nat) : Int), .str (mtx (kk + 1)), .pin (vs dn.length 2) (tmS s0), .str v0, .pin (vs dn.length 4) (fmS p0)] :: ze9 vs (dn.length + 1) (rest.map fmC), 0, true⟩)]) 0 dn.length 2 (zgm s0 ((kk + 1) + 1) (by omega) (by omega)) (by simp -implicitDefEqProofs only [go_sem, w0, w1, w2, tmS]) rfl rfl rfl (by simp -implicitDefEqProofs only [go_sem, tmS, Fm.op, Fm.atom, Fm.var, Fm.parts, Tm.name, Tm.args]) rfl ?_
   simp -implicitDefEqProofs only [go_sem, w0, w1, w2, Fm.op, Fm.atom, Fm.var, Fm.parts, Tm.name, Tm.args]
   refine callF (zhr (zbf s0 ((kk + 1) + 1)).2 (by omega) (by omega)) (by simp -implicitDefEqProofs only [go_sem, w0, w1, w2]) ?_
   simp -implicitDefEqProofs only [go_sem, w0, w1, w2]
   refine zge (by simp -implicitDefEqProofs only [go_sem, implies_true, w0, w1, w2]) ?_
   simp -implicitDefEqProofs only [go_sem, implies_true, w0, w1, w2]
   refine callN (l := [(0, .one (.ow 0 0)), (1000000, .one (.ow 0 0)), (5, vI dn.length), (48, .one (.cv (vs dn.length 4))), (49, vI (((zbf s0 ((kk + 1) + 1)).2 + 1) : Nat))]) (bl := []) (el := [(0, ⟨true, 5, dn.map fmC ++ [.int .i64 ((kk : Nat) : Int), .str (mtx (kk + 1)), tmS (zbf s0 ((kk + 1) + 1)).1, .str (mtx (zbf s0 ((kk + 1) + 1)).2), .pin (vs dn.length 4) (fmS p0)] :: ze9 vs (dn.length + 1) (rest.map fmC), 0, true⟩)]) 0 dn.length 4 (H (.mk o0 (.mk n0 s0) v0 p0) (h5 _ (by simp)) ((zbf s0 ((kk + 1) + 1)).2 + 1) (by omega) (by show ((zbf s0 ((kk + 1) + 1)).2 + 1) + zfa p0 <= _; omega)) (by simp -implicitDefEqProofs only [go_sem, w0, w1, w2, fmS]) rfl rfl rfl (by simp -implicitDefEqProofs only [go_sem, fmS, Fm.op, Fm.atom, Fm.var, Fm.parts, Tm.name, Tm.args]) rfl ?_
   simp -implicitDefEqProofs only [go_sem, w0, w1, w2, Fm.op, Fm.atom, Fm.var, Fm.parts, Tm.name, Tm.args]
   refine ⟨(dn ++ [.mk ((kk : Nat) : Int) (.mk (mtx (kk + 1)) (zbf s0 ((kk + 1) + 1)).1) (mtx (zbf s0 ((kk + 1) + 1)).2) (zc7 p0 ((zbf s0 ((kk + 1) + 1)).2 + 1)).1], rest, (zc7 p0 ((zbf s0 ((kk + 1) + 1)).2 + 1)).2), ⟨by simpa using h1, h2, by show 0 < (zc7 p0 ((zbf s0 ((kk + 1) + 1)).2 + 1)).2; omega, by show (zc7 p0 ((zbf s0 ((kk + 1) + 1)).2 + 1)).2 + zfa rest <= _; omega, by simp; omega, fun b hb => h5 b (by simp [hb])⟩, by simp, zab ?_⟩
   simp -implicitDefEqProofs only [go_sem, wl, zac (.mk _ _ _ _), Fm.op, Fm.atom, Fm.var, Fm.parts, Tm.name, Tm.args, List.map_append, List.append_assoc]
theorem zkw (xs : List Fm) (k : Nat) (h0 : 0 < k) (hk : k + zfa xs <= 4611686018427387904) : IC Tryz.prog 76 [] (.one (fmS xs)) [iD k] (.one (fmS (zc7 xs k).1)) [iD (zc7 xs k).2] :=
 zfj xs (fun a _ => za7 (P := fun a => ∀ k : Nat, 0 < k -> k + zfa a.parts <= 4611686018427387904 -> IC Tryz.prog 76 [] (.one (fmS a.parts)) [iD k] (.one (fmS (zc7 a.parts k).1)) [iD (zc7 a.parts k).2]) (fun o b v ps ih => zfj ps ih) a) k h0 hk
def zbu : Tm -> Nat -> Tm × Nat
 | .mk n0 s0, k => (.mk n0 (zbf s0 k).1, (zbf s0 k).2)
def zh0 : Tm -> Nat
 | .mk n0 s0 => zeh s0
theorem zls : ∀ (a : Tm) (k : Nat), k <= (zbu a k).2 /\ (zbu a k).2 <= k + zh0 a
 | .mk n0 s0, k => by have h0 := zdp s0 k; simp only [zbu, zh0]; omega
theorem zwh (a : Tm) (k : Nat) (h0 : 0 < k) (hk : k + zh0 a <= 4611686018427387904) : IC Tryz.prog 75 [] (.agg (tmC a)) [iD k] (.agg (tmC (zbu a k).1)) [iD (zbu a k).2] := by
 obtain ⟨n0, s0⟩ := a
 simp only [zh0] at hk
 have hc0 := zdp s0 k
 simp only [zaa (.mk _ _), Tm.name, Tm.args, zbu]
 refine IC_of Tryz.call75 Tryz.func75 rfl (by kernel_rfl) (by simp only [zdo, rd, List.map_cons, List.map_nil, List.nil_append, List.length_cons, List.length_nil, Tryz.ntmps75]; omega) (by simp only [Tryz.ntmps75]; omega) ⟨⟨by simp, by simp [T.isPin]⟩, zch _⟩ trivial ?_
 simp -implicitDefEqProofs only [go_sem, Tryz.results75, zko, zdo, PI]
 refine zuw (l := [(1000000, .agg [.t (.str n0), .ow 1 0]), (2, .one (.bx 2 0)), (6, .one (.ow 1 0)), (7, vI (k : Nat))]) (bl := [(2, [.t (.str n0), .ow 1 0])]) (el := [(1, ⟨true, 2, (s0).map tmC, 0, true⟩)]) (zgm s0 k (by omega) (by omega)) (by simp -implicitDefEqProofs only [go_sem, zaa (.mk _ _), Tm.name, Tm.args, tmS]) rfl rfl rfl (by simp -implicitDefEqProofs only [go_sem, zaa (.mk _ _), Tm.name, Tm.args, tmS]) rfl ?_
 simp -implicitDefEqProofs only [go_sem, zaa (.mk _ _), Tm.name, Tm.args, tmS]
def zbh : Fm -> Nat -> Fm × Nat
 | .mk o0 (.mk n0 s0) v0 p0, k => (.mk o0 (.mk n0 (zbu (.mk n0 s0) k).1.args) v0 (zc7 p0 (zbu (.mk n0 s0) k).2).1, (zc7 p0 (zbu (.mk n0 s0) k).2).2)
def zdt : Fm -> Nat
 | .mk o0 (.mk n0 s0) v0 p0 => zh0 (.mk n0 s0) + zfa p0
theorem zmh : ∀ (a : Fm) (k : Nat), k <= (zbh a k).2 /\ (zbh a k).2 <= k + zdt a
 | .mk o0 (.mk n0 s0) v0 p0, k => by have h0 := zls (.mk n0 s0) k; have h37 := zgt p0 (zbu (.mk n0 s0) k).2; simp only [zbh, zdt]; omega
theorem zn1 (a : Fm) (k : Nat) (h0 : 0 < k) (hk : k + zdt a <= 4611686018427387904) : IC Tryz.prog 20 [] (.agg (fmC a)) [iD k] (.agg (fmC (zbh a k).1)) [iD (zbh a k).2] := by
 obtain ⟨o0, ⟨n0, s0⟩, v0, p0⟩ := a
 simp only [zdt] at hk
 have hc0 := zls (.mk n0 s0) k
 have hc1 := zgt p0 (zbu (.mk n0 s0) k).2
 simp only [zac (.mk _ _ _ _), zaa (.mk _ _), Fm.op, Fm.atom, Fm.var, Fm.parts, Tm.name, Tm.args, zbh, zbu]
 refine IC_of Tryz.call20 Tryz.func20 rfl (by kernel_rfl) (by simp only [zdo, rd, List.map_cons, List.map_nil, List.nil_append, List.length_cons, List.length_nil, Tryz.ntmps20]; omega) (by simp only [Tryz.ntmps20]; omega) ⟨⟨by simp, by simp [T.isPin]⟩, zch _⟩ trivial ?_
 simp -implicitDefEqProofs only [go_sem, Tryz.results20, zko, zdo, PI]
 refine zuw (l := [(1000000, .agg [.t (.int .i64 o0), .t (.str n0), .ow 2 0, .t (.str v0), .ow 4 0]), (2, .one (.bx 2 0)), (6, .agg [.t (.str n0), .ow 2 0]), (7, vI (k : Nat))]) (bl := [(2, [.t (.int .i64 o0), .t (.str n0), .ow 2 0, .t (.str v0), .ow 4 0])]) (el := [(2, ⟨true, 2, (s0).map tmC, 0, true⟩), (4, ⟨true, 5, (p0).map fmC, 0, true⟩)]) (zwh (.mk n0 s0) k (by omega) (by omega)) (by simp -implicitDefEqProofs only [go_sem, zac (.mk _ _ _ _), zaa (.mk _ _), Fm.op, Fm.atom, Fm.var, Fm.parts, Tm.name, Tm.args, zbu, tmS]) rfl rfl rfl (by simp -implicitDefEqProofs only [go_sem, zac (.mk _ _ _ _), zaa (.mk _ _), Fm.op, Fm.atom, Fm.var, Fm.parts, Tm.name, Tm.args, zbu, tmS]) rfl ?_
 simp -implicitDefEqProofs only [go_sem, zac (.mk _ _ _ _), zaa (.mk _ _), Fm.op, Fm.atom, Fm.var, Fm.parts, Tm.name, Tm.args, zbu, tmS]
 refine zuw (l := [(1000000, .agg [.t (.int .i64 o0), .t (.str n0), .ow 2 0, .t (.str v0), .ow 4 0]), (2, .one (.bx 2 0)), (10, .one (.ow 4 0)), (11, vI ((zbu (.mk n0 s0) k).2 : Nat))]) (bl := [(2, [.t (.int .i64 o0), .t (.str n0), .ow 2 0, .t (.str v0), .ow 4 0])]) (el := [(2, ⟨true, 2, ((zbf s0 k).1).map tmC, 0, true⟩), (4, ⟨true, 5, (p0).map fmC, 0, true⟩)]) (zkw p0 (zbu (.mk n0 s0) k).2 (by omega) (by omega)) (by simp -implicitDefEqProofs only [go_sem, zac (.mk _ _ _ _), zaa (.mk _ _), Fm.op, Fm.atom, Fm.var, Fm.parts, Tm.name, Tm.args, zbu, fmS]) rfl rfl rfl (by simp -implicitDefEqProofs only [go_sem, zac (.mk _ _ _ _), zaa (.mk _ _), Fm.op, Fm.atom, Fm.var, Fm.parts, Tm.name, Tm.args, zbu, fmS]) rfl ?_
 simp -implicitDefEqProofs only [go_sem, zac (.mk _ _ _ _), zaa (.mk _ _), Fm.op, Fm.atom, Fm.var, Fm.parts, Tm.name, Tm.args, zbu, fmS]
end Go.Proofs.YtemnhgmgeijkcaaGreat
namespace Go.Proofs.YtemnhgmgeijkcaaGreat
set_option linter.unusedSimpArgs false
set_option linter.unusedVariables false
set_option linter.unusedSectionVars false
set_option maxRecDepth 4000
open Go.RowKit
theorem wt_mkF (o : Int) (ps : List Fm) : (mkF o ps).wt = ps.length + (ps.map Fm.wt).sum := by
 rw [Fm.wt_eq]
 show (Tm.mk [] []).wt + 0 + ps.length + _ = _
 rw [Tm.wt_eq]
 simp [Tm.name, Tm.args, mkF, Fm.parts]
mutual
theorem qdo : ∀ a : Tm, zic a <= 2 + 2 * a.wt
 | .mk n s => by
  have := zgx s
  rw [Tm.wt_eq, zic]; unfold ze6 at this
  simp only [Tm.name, Tm.args]; omega
theorem zgx : ∀ xs : List Tm, zeh xs <= 2 * ze6 xs
 | [] => by simp [zeh]
 | a :: xs => by
  have h1 := qdo a
  have h2 := zgx xs
  unfold ze6 at h2 ⊢
  rw [zeh, List.length_cons, List.map_cons, List.sum_cons]; omega
end
mutual
theorem qa3 : ∀ a : Fm, zh8 a <= 4 + 4 * a.wt
 | .mk o (.mk n s) v p => by
  have h1 := zgx s
  have h2 := zl8 p
  rw [Fm.wt_eq, zh8]; unfold zrz at h2; unfold ze6 at h1
  simp only [Fm.atom, Fm.var, Fm.parts]
  rw [Tm.wt_eq]
  simp only [Tm.name, Tm.args]; omega
theorem zl8 : ∀ xs : List Fm, zfa xs <= 4 * zrz xs
 | [] => by simp [zfa]
 | a :: xs => by
  have h1 := qa3 a
  have h2 := zl8 xs
  unfold zrz at h2 ⊢
  rw [zfa, List.length_cons, List.map_cons, List.sum_cons]; omega
end
theorem znk (a : Fm) : zdt a <= 4 * a.wt := by
 obtain ⟨o, ⟨n, s⟩, v, p⟩ := a
 have h1 := zgx s
 have h2 := zl8 p
 rw [Fm.wt_eq, zdt, zh0]; unfold zrz at h2; unfold ze6 at h1
 simp only [Fm.atom, Fm.var, Fm.parts]
 rw [Tm.wt_eq]
 simp only [Tm.name, Tm.args]; omega
theorem zis (f : Fm) (k : Nat) : fmC (zbh f k).1 = [.int .i64 f.op, .str f.atom.name, .sl 2 ((zbh f k).1.atom.args.map tmC), .str f.var, .sl 5 ((zbh f k).1.parts.map fmC)] := by
 obtain ⟨o, ⟨n, s⟩, v, p⟩ := f
 rw [zac]; rfl
end Go.Proofs.YtemnhgmgeijkcaaGreat
namespace Go.Proofs.YtemnhgmgeijkcaaGreat
set_option linter.unusedSimpArgs false
set_option linter.unusedVariables false
set_option linter.unusedSectionVars false
set_option maxRecDepth 4000
open Go.RowKit
theorem zrl (f : Fm) (hs : f.wt <= 1099511627776) : GC Tryz.prog 70 [(true, fmD f)] [fmD (if f.good = true then f else mkF 0 []), bD f.good] := by
 cases h : f.good
 ·rw [if_neg (by simp)]
  simp only [fmD, zac f, zbw, List.map_nil]
  refine zzw Tryz.call70 Tryz.func70 rfl (by kernel_rfl) (by simp only [List.length_cons, List.length_nil, Tryz.ntmps70]; omega) (by simp [zbo, T.isPin]) ?_
  simp -implicitDefEqProofs only [go_sem, Tryz.results70]
  refine callF (zcq f hs) (by simp -implicitDefEqProofs only [go_sem, zac f, h]) ?_
  simp -implicitDefEqProofs only [go_sem, zac f, h]
 ·rw [if_pos rfl]
  simp only [fmD, zac f]
  refine zzw Tryz.call70 Tryz.func70 rfl (by kernel_rfl) (by simp only [List.length_cons, List.length_nil, Tryz.ntmps70]; omega) (by simp [zbo, T.isPin]) ?_
  simp -implicitDefEqProofs only [go_sem, Tryz.results70]
  refine callF (zcq f hs) (by simp -implicitDefEqProofs only [go_sem, zac f, h]) ?_
  simp -implicitDefEqProofs only [go_sem, zac f, h]
theorem zrt (op : Int) (z : Fm) : ∀ xs : List Fm, (zc4 op xs z).wt <= 2 * xs.length + (xs.map Fm.wt).sum + z.wt
 | [] => by simp [zc4]
 | x :: xs => by
  by_cases h : xs = []
  ·subst h; simp [zc4]; omega
  ·rw [zd9 op x h, wt_mkF]
   have := zrt op z xs
   simp; omega
end Go.Proofs.YtemnhgmgeijkcaaGreat
namespace Go.Proofs.YtemnhgmgeijkcaaGreat
set_option linter.unusedSimpArgs false
set_option linter.unusedVariables false
set_option linter.unusedSectionVars false
set_option maxRecDepth 4000
open Go.RowKit
theorem qkm {n m : Str} (hn : zay n = true) (hm : zcs m = true) : (n == m) = false := by
 rw [beq_eq_false_iff_ne]
 rintro rfl
 have h1 := (zvs hn).1
 have h2 := (zoc hm).1
 rw [h1] at h2
 cases h2
theorem zwp {n : Str} (h : zcs n = true) : zay n = false := by
 cases hv : zay n
 ·rfl
 ·have := qkm hv h
  simp at this
theorem noneT {a : Tm} (h : a.none = true) : a = .mk [] [] := by
 unfold Tm.none at h
 rw [Bool.and_eq_true, beq_iff_eq, decide_eq_true_eq, List.length_eq_zero_iff] at h
 cases a with
 | mk n xs => simp only [Tm.name, Tm.args] at h; rw [h.1, h.2]
theorem zhf {f : Fm} (h : f.here = true) (h3 : (f.op == 3) = false) : f.atom = .mk [] [] := by
 apply noneT
 unfold Fm.here at h
 rw [h3] at h
 simp only [Bool.false_eq_true, if_false] at h
 split at h
 ·simp only [Bool.and_eq_true] at h; exact h.1.2
 ·split at h
  ·simp only [Bool.and_eq_true] at h; exact h.1.2
  ·split at h
   ·simp only [Bool.and_eq_true] at h; exact h.1.2
   ·split at h
    ·simp only [Bool.and_eq_true] at h; exact h.1.2
    ·cases h
theorem qav {f : Fm} {ps : List Fm} (h : f.here = true) (h3 : (f.op == 3) = false) (hl : ps.length = f.parts.length) : (Fm.mk f.op f.atom f.var ps).here = true := by
 have e : (Fm.mk f.op f.atom f.var ps).here = f.here := by
  unfold Fm.here
  show (if (f.op == 1 || f.op == 2) = true then decide (ps.length = 0) && f.atom.none && (f.var == []) else if (f.op == 3) = true then decide (ps.length = 0) && f.atom.atomOk && (f.var == []) else if (f.op == 4) = true then decide (ps.length = 1) && f.atom.none && (f.var == []) else if zlf f.op = true then decide (ps.length = 2) && f.atom.none && (f.var == []) else if isQ f.op = true then decide (ps.length = 1) && f.atom.none && zay f.var else false) = _
  rw [hl]
 rw [e]; exact h
theorem qab {f : Fm} (h1 : f.here = true) (h : isQ f.op = true) : zay f.var = true := by
 unfold Fm.here at h1
 have h2 : (f.op == 1 || f.op == 2) = false /\ (f.op == 3) = false /\ (f.op == 4) = false /\ zlf f.op = false := by
  have h8 : f.op = 8 \/ f.op = 9 := by unfold isQ at h; rw [Bool.or_eq_true, beq_iff_eq, beq_iff_eq] at h; exact h
  rcases h8 with e | e <;> rw [e] <;> decide
 rw [h2.1, h2.2.1, h2.2.2.1, h2.2.2.2, h] at h1
 simp only [Bool.false_eq_true, if_false, if_true, Bool.and_eq_true] at h1
 exact h1.2
theorem zu9 (o : Int) (a : Tm) (v : Str) (ps : List Fm) : (Fm.mk o a v ps).forms = ((Fm.mk o a v ps).here && ps.all Fm.forms) := Fm.forms_eq _
theorem zfh {f : Fm} (h : f.good = true) : f.forms = true := (Bool.and_eq_true _ _ ▸ h : _ /\ _).2
end Go.Proofs.YtemnhgmgeijkcaaGreat
namespace Go.Proofs.YtemnhgmgeijkcaaGreat
set_option linter.unusedSimpArgs false
set_option linter.unusedVariables false
set_option linter.unusedSectionVars false
set_option maxRecDepth 4000
open Go.RowKit
theorem zok (a t : Tm) : FC Tryz.prog 227 [tmD a, .one (.ptr (tmC t))] [bD (same a t)] := by
 have H := zid a t
 simp only [tmD, zaa] at H ⊢
 refine zaj Tryz.call227 Tryz.func227 rfl (by kernel_rfl) (zav (by kernel_rfl)) ?_
 simp -implicitDefEqProofs only [go_sem, Tryz.results227]
 refine callF (H) (by simp -implicitDefEqProofs only [go_sem]) ?_
 simp -implicitDefEqProofs only [go_sem]
theorem zmn (xs : List Tm) (t : Tm) : FC Tryz.prog 163 [.one (tmS xs), tmD t] [iD (zn5 xs fun a => same a t)] := by
 have H := zfi xs (fun a => same a t) 227 [.ptr (tmC t)] fun x _ => zok x t
 simp only [tmD, zaa t] at H ⊢
 refine zaj Tryz.call163 Tryz.func163 rfl (by kernel_rfl) (zav (by kernel_rfl)) ?_
 simp -implicitDefEqProofs only [go_sem, Tryz.results163]
 refine callF (H) (by simp -implicitDefEqProofs only [go_sem]) ?_
 simp -implicitDefEqProofs only [go_sem]
theorem zxv (xs : List Tm) (t : Tm) : FC Tryz.prog 153 [.one (tmS xs), tmD t] [iD (zn5 xs fun a => same a t)] := by
 refine zc1 (fun hw => ?_) Tryz.call153
 have hl : xs.length <= 9223372036854775807 := by simpa [zf5, wfT] using hw.1.1
 simp only [tmD, zaa t]
 refine zaj Tryz.call153 Tryz.func153 rfl (by kernel_rfl) (zav (by kernel_rfl)) ?_
 simp -implicitDefEqProofs only [go_sem, Tryz.results153]
 refine zad (fun k : Nat => hd [(0, vT (tmS xs)), (3, .one (.bx 3 0)), (5, vI k)] [(3, [.t (.str t.name), .t (tmS t.args)])] []) (fun k => k <= xs.length /\ ∀ x ∈ xs.take k, same x t = false) (fun k => xs.length - k) 0 (zab ?_) ⟨Nat.zero_le _, by simp⟩ ?_
 ·simp -implicitDefEqProofs only [go_sem]
 ·rintro k ⟨hk, hT⟩
  by_cases hlt : k < xs.length
  ·have HC := zut xs[k] t
   simp only [tmD, zaa xs[k], zaa t] at HC
   simp -implicitDefEqProofs only [go_sem, hlt]
   refine drawn (by kernel_rfl) ?_
   simp -implicitDefEqProofs only [go_sem, zai, hlt, zaa xs[k]]
   refine za1 (HC) (by simp -implicitDefEqProofs only [go_sem]) ?_
   simp -implicitDefEqProofs only [go_sem]
   refine ⟨by kernel_rfl, fun h => ?_, fun h => ?_⟩
   ·rw [zec hlt hT h]
   ·refine ⟨k + 1, ⟨hlt, zdl hlt hT h⟩, by omega, zab ?_⟩
    simp -implicitDefEqProofs only [go_sem]
    rw [zak (by omega)]
  ·simp -implicitDefEqProofs only [go_sem, hlt]
   rw [List.take_of_length_le (by omega)] at hT
   rw [zg0 hT]
end Go.Proofs.YtemnhgmgeijkcaaGreat
namespace Go.Proofs.YtemnhgmgeijkcaaGreat
set_option linter.unusedSimpArgs false
set_option linter.unusedVariables false
set_option linter.unusedSectionVars false
set_option maxRecDepth 4000
open Go.RowKit
noncomputable def dec (p : Prop) : Bool := @decide p (Classical.propDecidable _)
theorem zew {p : Prop} : dec p = true ↔ p := by simp [dec]
end Go.Proofs.YtemnhgmgeijkcaaGreat
namespace Go.Proofs.YtemnhgmgeijkcaaGreat
set_option linter.unusedSimpArgs false
set_option linter.unusedVariables false
set_option linter.unusedSectionVars false
set_option maxRecDepth 4000
open Go.RowKit
theorem qeg {α : Type} {xs : List α} {k : Nat} (h : k < xs.length) (d : α) : xs.getD k d = xs[k] := by rw [List.getD_eq_getElem?_getD, List.getElem?_eq_getElem h]; rfl
end Go.Proofs.YtemnhgmgeijkcaaGreat
namespace Go.Proofs.YtemnhgmgeijkcaaGreat
set_option linter.unusedSimpArgs false
set_option linter.unusedVariables false
set_option linter.unusedSectionVars false
set_option maxRecDepth 4000
open Go.RowKit
theorem zzd {α : Type} {l : List α} (h : l.Nodup) {i j : Nat} (hi : i < l.length) (hj : j < l.length) (e : l[i] = l[j]) : i = j := by
 rw [List.nodup_iff_pairwise_ne, List.pairwise_iff_getElem] at h
 rcases Nat.lt_trichotomy i j with h1 | h1 | h1
 ·exact absurd e (h i j hi hj h1)
 ·exact h1
 ·exact absurd e.symm (h j i hj hi h1)
theorem qkl {f : Fm} (hf : f.forms = true) : f.here = true := by
 rw [Fm.forms_eq, Bool.and_eq_true] at hf; exact hf.1
theorem zvf {f : Fm} (h : f.here = true) (hq : isQ f.op = false) : f.var = [] := by
 unfold Fm.here at h
 rw [hq] at h
 simp only [Bool.false_eq_true, if_false] at h
 (repeat' split at h) <;> first | (simp only [Bool.and_eq_true, beq_iff_eq] at h; exact h.2) | cases h
theorem zww {f : Fm} (h : f.here = true) (h3 : (f.op == 3) = true) : f.parts.length = 0 := by
 rw [(zjp h (by simpa using h3)).2]; rfl
end Go.Proofs.YtemnhgmgeijkcaaGreat
namespace Go.Proofs.YtemnhgmgeijkcaaGreat
set_option linter.unusedSimpArgs false
set_option linter.unusedVariables false
set_option linter.unusedSectionVars false
set_option maxRecDepth 4000
open Go.RowKit
theorem zvb {f : Fm} (h : f.good = true) : f.forms = true := (Bool.and_eq_true _ _ ▸ h : _ /\ _).2
theorem qe4 (xs : List Str) : (zd3 xs).Pairwise (· <= ·) := by
 have tr : ∀ a b c : List UInt8, leB a b = true -> leB b c = true -> leB a c = true := fun a b c h1 h2 => by simp only [leB, decide_eq_true_eq] at *; exact List.le_trans h1 h2
 have to : ∀ a b : List UInt8, (leB a b || leB b a) = true := fun a b => by simp only [leB, Bool.or_eq_true, decide_eq_true_eq]; exact List.le_total a b
 refine (List.pairwise_mergeSort tr to xs).imp ?_
 intro a b h1
 simpa only [leB, decide_eq_true_eq] using h1
theorem zfe (ns : List Str) : (zd3 ns).length = ns.length := (List.mergeSort_perm ns leB).length_eq
theorem zr5 (ns : List Str) : ((Lib.compact (zd3 ns)).length == ns.length) = decide ns.Nodup := by
 have hp : (zd3 ns).Nodup ↔ ns.Nodup := (List.mergeSort_perm ns leB).nodup_iff
 rw [Bool.eq_iff_iff, beq_iff_eq, decide_eq_true_eq, <- hp, <- zfe ns]
 have hs : (zd3 ns).Pairwise (· <= ·) := qe4 ns
 generalize zd3 ns = zs at hs ⊢
 unfold Lib.compact Lib.compactUpTo
 rw [List.length_map]
 have hr : zs.length = (List.range zs.length).length := by simp
 rw [show ((List.filter (Lib.keeps zs.toArray) (List.range zs.length)).length = zs.length) = ((List.filter (Lib.keeps zs.toArray) (List.range zs.length)).length = (List.range zs.length).length) by rw [<- hr], List.length_filter_eq_length_iff]
 rw [List.pairwise_iff_getElem] at hs
 unfold List.Nodup
 rw [List.pairwise_iff_getElem]
 constructor
 ·intro h i j hi hj hij e
  have hk := h j (by simpa using hj)
  unfold Lib.keeps at hk
  rw [decide_eq_true_eq] at hk
  rcases hk with hk | hk
  ·omega
  ·apply hk
   have hj1 : j - 1 < zs.length := by omega
   rw [show zs.toArray[j]! = zs[j] by simp [hj], show zs.toArray[j - 1]! = zs[j - 1] by simp [hj1]]
   by_cases hij2 : i = j - 1
   ·subst hij2; exact e.symm
   ·have h1 := hs i (j - 1) hi hj1 (by omega)
    have h2 := hs (j - 1) j hj1 hj (by omega)
    rw [<- e] at h2 ⊢
    exact List.le_antisymm h1 h2
 ·intro h j hj
  have hj : j < zs.length := by simpa using hj
  unfold Lib.keeps
  rw [decide_eq_true_eq]
  by_cases h0 : j = 0
  ·exact Or.inl h0
  ·right
   have hj1 : j - 1 < zs.length := by omega
   rw [show zs.toArray[j]! = zs[j] by simp [hj], show zs.toArray[j - 1]! = zs[j - 1] by simp [hj1]]
   exact fun e => h (j - 1) j hj1 hj (by omega) e.symm
noncomputable def qe9 (f : Fm) : Bool := f.good && decide ((zbm [] (vf f [])).length = 0) && decide (exN f).1.Nodup && za3 (exN f).2
theorem zq0 (f : Fm) (hw : f.wt <= 1048576) : FC Tryz.prog 64 [fmD f] [bD (qe9 f)] := by
 have hH : qe9 f = (f.good && decide ((zbm [] (vf f [])).length = 0) && decide (exN f).1.Nodup && za3 (exN f).2) := rfl
 cases hg : f.good
 ·rw [hH, hg]
  simp only [fmD, zac f]
  refine zb8 Tryz.call64 Tryz.func64 rfl (by kernel_rfl) (zav (by kernel_rfl)) ?_
  simp -implicitDefEqProofs only [go_sem, Tryz.results64]
  refine callF (zcq f (by omega)) (by simp -implicitDefEqProofs only [go_sem, zac f, hg]) ?_
  simp -implicitDefEqProofs only [go_sem, zac f, hg]
 ·rw [hg, Bool.true_and] at hH
  have HF := free_c f (zvb hg) hw
  have HP := ztq f (zvb hg) hw
  have hL := zfs f
  have hN := zcd f
  generalize (exN f).1 = ns at hH HP hL
  generalize (exN f).2 = g at hH HP
  generalize (zbm [] (vf f [])) = V at hH HF
  have hcl := zr5 ns
  simp only [fmD, zac f, zac g] at HF HP ⊢
  refine zb8 Tryz.call64 Tryz.func64 rfl (by kernel_rfl) (zav (by kernel_rfl)) ?_
  simp -implicitDefEqProofs only [go_sem, Tryz.results64]
  refine callF (zcq f (by omega)) (by simp -implicitDefEqProofs only [go_sem, zac f, hg]) ?_
  simp -implicitDefEqProofs only [go_sem, zac f, hg]
  by_cases hV : V.length = 0
  ·have hS := zjk ns (by omega)
   have hC := zlo (zd3 ns) (by rw [zfe]; omega)
   have hK := zqs (zd3 ns)
   have hO := ql7 g
   simp only [fmD, zac g] at hO
   rw [<- zfe ns] at hcl
   have hsl := zfe ns
   generalize Lib.compact (zd3 ns) = cs at hK hcl
   generalize zd3 ns = ss at hS hC hK hcl hsl
   rw [show decide (V.length = 0) = true by simp [hV], Bool.true_and] at hH
   refine zla (HF) (by simp -implicitDefEqProofs only [go_sem, hV]) ?_
   simp -implicitDefEqProofs only [go_sem, hV]
   refine zu0 [1] [15] [] (HP) (by simp -implicitDefEqProofs only [go_sem]) (by simp -implicitDefEqProofs only [go_sem]) (by simp -implicitDefEqProofs only [go_sem]) (by simp -implicitDefEqProofs only [go_sem]) ?_
   simp -implicitDefEqProofs only [go_sem]
   refine qcp (hS) (by simp -implicitDefEqProofs only [go_sem, zb0]) (by simp -implicitDefEqProofs only [go_sem, zb0]) rfl ?_
   simp -implicitDefEqProofs only [go_sem, zb0]
   refine frzO 512 rfl rfl ?_
   simp -implicitDefEqProofs only [go_sem]
   refine callF (hC) (by simp -implicitDefEqProofs only [go_sem]) ?_
   simp -implicitDefEqProofs only [go_sem]
   have hcl' : ((cs.length : Int) == (ss.length : Int)) = decide ns.Nodup := by rw [<- hcl, Bool.eq_iff_iff]; simp only [beq_iff_eq]; omega
   cases hn : decide ns.Nodup
   ·rw [hn] at hcl' hH
    refine zco [3, 4] [22] [] (hK) (by simp -implicitDefEqProofs only [go_sem, hcl']) (by simp -implicitDefEqProofs only [go_sem, hcl']) (by simp -implicitDefEqProofs only [go_sem, hcl']) (by simp -implicitDefEqProofs only [go_sem, hcl']) ?_
    simp -implicitDefEqProofs only [go_sem, hcl']
    exact Or.inl (by rw [hH]; rfl)
   ·rw [hn] at hcl' hH
    refine zco [3, 4] [22] [] (hK) (by simp -implicitDefEqProofs only [go_sem, hcl']) (by simp -implicitDefEqProofs only [go_sem, hcl']) (by simp -implicitDefEqProofs only [go_sem, hcl']) (by simp -implicitDefEqProofs only [go_sem, hcl']) ?_
    simp -implicitDefEqProofs only [go_sem, hcl']
    refine zep (by simp -implicitDefEqProofs only [go_sem]) ?_
    simp -implicitDefEqProofs only [go_sem]
    refine callF (hO) (by simp -implicitDefEqProofs only [go_sem]) ?_
    simp -implicitDefEqProofs only [go_sem]
    exact Or.inl (by rw [hH]; simp)
  ·rw [show decide (V.length = 0) = false by simp [hV], Bool.false_and, Bool.false_and] at hH
   have hV' : (0 : Int) < (V.length : Int) := by omega
   refine zla (HF) (by simp -implicitDefEqProofs only [go_sem, hV']) ?_
   simp -implicitDefEqProofs only [go_sem, hV']
   exact Or.inl (by rw [hH])
theorem zpx (f : Fm) (hw : f.wt <= 1048576) : FC Tryz.prog 110 [fmD f] [bD (qe9 f)] := by
 have hH : qe9 f = (f.good && decide ((zbm [] (vf f [])).length = 0) && decide (exN f).1.Nodup && za3 (exN f).2) := rfl
 cases hg : f.good
 ·rw [hH, hg]
  simp only [fmD, zac f]
  refine zb8 Tryz.call110 Tryz.func110 rfl (by kernel_rfl) (zav (by kernel_rfl)) ?_
  simp -implicitDefEqProofs only [go_sem, Tryz.results110]
  refine callF (ziw f (by omega)) (by simp -implicitDefEqProofs only [go_sem, zac f, hg]) ?_
  simp -implicitDefEqProofs only [go_sem, zac f, hg]
 ·rw [hg, Bool.true_and] at hH
  have HF := zug f (zvb hg) hw
  have HP := zqn f (zvb hg) hw
  have hL := zfs f
  have hN := zcd f
  have hgw := Nat.le_trans (qaz f) hw
  generalize (exN f).1 = ns at hH HP hL
  generalize (exN f).2 = g at hH HP hgw
  generalize (zbm [] (vf f [])) = V at hH HF
  simp only [fmD, zac f, zac g] at HF HP ⊢
  refine zb8 Tryz.call110 Tryz.func110 rfl (by kernel_rfl) (zav (by kernel_rfl)) ?_
  simp -implicitDefEqProofs only [go_sem, Tryz.results110]
  refine callF (ziw f (by omega)) (by simp -implicitDefEqProofs only [go_sem, zac f, hg]) ?_
  simp -implicitDefEqProofs only [go_sem, zac f, hg]
  by_cases hV : V.length = 0
  ·have hO := zwb g hgw
   simp only [fmD, zac g] at hO
   rw [show decide (V.length = 0) = true by simp [hV], Bool.true_and] at hH
   refine zla (HF) (by simp -implicitDefEqProofs only [go_sem, hV]) ?_
   simp -implicitDefEqProofs only [go_sem, hV]
   refine zu0 [1] [16] [] (HP) (by simp -implicitDefEqProofs only [go_sem]) (by simp -implicitDefEqProofs only [go_sem]) (by simp -implicitDefEqProofs only [go_sem]) (by simp -implicitDefEqProofs only [go_sem]) ?_
   simp -implicitDefEqProofs only [go_sem]
   refine zad (fun k : Nat => hd [(3, .one (.rn (zb9 ns))), (4, .one (.bx 4 0)), (5, vI k)] [(4, [.t (.int .i64 g.op), .t (.str g.atom.name), .rn (tmS g.atom.args), .t (.str g.var), .rn (fmS g.parts)])] []) (fun k => k <= ns.length /\ (ns.take k).Nodup) (fun k => ns.length - k) 0 (zab ?_) ⟨Nat.zero_le _, List.nodup_nil⟩ ?_
   ·simp -implicitDefEqProofs only [go_sem]
   ·rintro k ⟨hk, hT⟩
    by_cases hlt : k < ns.length
    ·simp -implicitDefEqProofs only [go_sem, hlt]
     refine drawn (by kernel_rfl) ?_
     simp -implicitDefEqProofs only [go_sem, zai, hlt]
     refine ⟨hk, ?_⟩
     refine za1 (zt8 (ns.take k) ns[k]) (by simp -implicitDefEqProofs only [go_sem, zb9, List.map_take]) ?_
     simp -implicitDefEqProofs only [go_sem, zb9, List.map_take]
     refine ⟨by kernel_rfl, fun h => ?_, fun h => ?_⟩
     ·have hn : decide ns.Nodup = false := by
       rw [decide_eq_false_iff_not]
       intro hnd
       have h1 : (ns.take (k + 1)).Nodup := hnd.sublist (List.take_sublist _ _)
       rw [List.take_succ_eq_append_getElem hlt, List.nodup_append] at h1
       exact h1.2.2 _ (by simpa using h) _ (by simp) rfl
      rw [hn] at hH
      exact Or.inl (by rw [hH]; rfl)
     ·refine ⟨k + 1, ⟨hlt, ?_⟩, by omega, zab ?_⟩
      ·rw [List.take_succ_eq_append_getElem hlt, List.nodup_append]
       refine ⟨hT, by simp, ?_⟩
       rintro a ha b hb rfl
       rw [List.mem_singleton] at hb
       subst hb
       simp only [List.contains_eq_mem, decide_eq_false_iff_not] at h
       exact h ha
      ·simp -implicitDefEqProofs only [go_sem]
       rw [zak (by omega)]
    ·simp -implicitDefEqProofs only [go_sem, hlt]
     rw [List.take_of_length_le (by omega)] at hT
     rw [show decide ns.Nodup = true by simp [hT], Bool.true_and] at hH
     refine callF (hO) (by simp -implicitDefEqProofs only [go_sem]) ?_
     simp -implicitDefEqProofs only [go_sem]
     exact Or.inl (by rw [hH])
  ·rw [show decide (V.length = 0) = false by simp [hV], Bool.false_and, Bool.false_and] at hH
   have hV' : (0 : Int) < (V.length : Int) := by omega
   refine zla (HF) (by simp -implicitDefEqProofs only [go_sem, hV']) ?_
   simp -implicitDefEqProofs only [go_sem, hV']
   exact Or.inl (by rw [hH])
end Go.Proofs.YtemnhgmgeijkcaaGreat
namespace Go.Proofs.YtemnhgmgeijkcaaGreat
set_option linter.unusedSimpArgs false
set_option linter.unusedVariables false
set_option linter.unusedSectionVars false
set_option maxRecDepth 4000
open Go.RowKit
abbrev ze4 (xs : List (List Tm)) : T := .sl 1 (xs.map fun s => [tmS s])
end Go.Proofs.YtemnhgmgeijkcaaGreat
namespace Go.Proofs.YtemnhgmgeijkcaaGreat
set_option linter.unusedSimpArgs false
set_option linter.unusedVariables false
set_option linter.unusedSectionVars false
set_option maxRecDepth 4000
open Go.RowKit
abbrev tssD (l : List (List Tm)) : D := .one (ze4 l)
theorem zy2 {d : PD} (h : zbn Tryz.prog 28 d) : ∃ l : List (List Tm), d.cells = [ze4 l] := by
 obtain ⟨xs, rfl, hx⟩ := h.sl Tryz.underlying28
 obtain ⟨l, hl⟩ := zed (fun s => [tmS s]) xs fun x hx' => qgk (hx x hx')
 exact ⟨l, by rw [PD.cells, hl, show Tryz.prog.cellsOf 22 = 1 from by kernel_rfl]⟩
end Go.Proofs.YtemnhgmgeijkcaaGreat
namespace Go.Proofs.YtemnhgmgeijkcaaGreat
set_option linter.unusedSimpArgs false
set_option linter.unusedVariables false
set_option linter.unusedSectionVars false
set_option maxRecDepth 4000
open Go.RowKit
variable {P : Program}
section
variable {ks : List Fr} {Q : Exit -> St -> Prop} {σ : St} {ops : Array Oper} {os : List Oper} {L : List (List Ky × List Ky)} {d : Nat} {t : TypeId} {ty : TypeId} {ps : String} {af : Array Edge} {len : Nat} {parts : Array (Nat × Operand)}
theorem zi1 (h : zaq (blS P σ t len parts) fun _ => σ.ev (d * 32) = none)
  (k : exd P ops os (L ++ [(zax (parts.toList.map (·.2)) ++ (rK (qmv (zob P (σ.get P) t len parts)) ++ [(2, d * 32)]), dK (some d) ++ eK (blK d (blS P σ t len parts)))]) ks Q ((σ.bl d (blS P σ t len parts)).put (some d) (.one (.ow (d * 32) 0)))) :
  exd P ops (⟨some d, .buildSlice t len parts, ty, ps, af, none⟩ :: os) L ks Q σ := by
 obtain ⟨⟨x, cons⟩, h1, h2⟩ := zan h
 rw [h1] at k
 unfold blS at h1
 obtain ⟨p, e1, h1⟩ := Option.bind_eq_some_iff.1 h1
 obtain ⟨q, e2, h1⟩ := Option.map_eq_some_iff.1 h1
 simp only [Prod.mk.injEq] at h1
 obtain ⟨rfl, rfl⟩ := h1
 rw [e1] at k
 exact qmz ⟨e1, e2, h2⟩ k
end
end Go.Proofs.YtemnhgmgeijkcaaGreat
namespace Go.Proofs.YtemnhgmgeijkcaaGreat
set_option linter.unusedSimpArgs false
set_option linter.unusedVariables false
set_option linter.unusedSectionVars false
set_option maxRecDepth 4000
open Go.RowKit
variable {P : Program} {N : Nat}
def zbt (P : Program) (N : Nat) (c : Code) (σ : St) (Q : Exit -> St -> Prop) : Prop := ∀ n0 w0 A0 g a w, Rel n0 N σ g a w -> LtK n0 w -> Bk n0 w0 w -> (g.A0, g.R0) = A0 -> c.wp P (qit n0 N w0 A0 Q) a w
theorem qit.mono {n0 : Nat -> Prop} {w0 : World} {A0 : (Nat -> Prop) × RP} {Q Q' : Exit -> St -> Prop} (h : ∀ e σ, Q e σ -> Q' e σ) {e : Exit} {a : Act} {w : World} : qit n0 N w0 A0 Q e a w -> qit n0 N w0 A0 Q' e a w
 | ⟨σ, g, h1, h2⟩ => ⟨σ, g, h _ _ h1, h2⟩
theorem zbt.mono {c : Code} {σ : St} {Q Q' : Exit -> St -> Prop} (h : ∀ e σ, Q e σ -> Q' e σ) (k : zbt P N c σ Q) : zbt P N c σ Q' := fun n0 w0 A0 g a w h1 h2 h3 h4 => wp_mono (k n0 w0 A0 g a w h1 h2 h3 h4) fun _ _ _ => qit.mono h
theorem zbt.ofEx {c : Code} {σ : St} {Q : Exit -> St -> Prop} (hd : zbb N c = true) (h : ex P c [] Q σ) : zbt P N c σ Q := fun _ _ _ g a w h1 h2 h3 h4 => zbe c σ Q hd h g a w h1 h2 h3 h4
def qas (P : Program) (N : Nat) (c : Code) (Q : Exit -> St -> Prop) (e : Exit) (σ : St) : Prop := match e with | .normal => zbt P N c σ Q | e => Q e σ
theorem zpc (c : Code) (Q : Exit -> St -> Prop) (σ : St) : qas P N c Q .normal σ = zbt P N c σ Q := rfl
theorem qbt (c : Code) (Q : Exit -> St -> Prop) (σ : St) : qas P N c Q .ret σ = Q .ret σ := rfl
theorem zxp (c : Code) (Q : Exit -> St -> Prop) (σ : St) (i : Nat) : qas P N c Q (.exit i) σ = Q (.exit i) σ := rfl
theorem zbt.seq {x y : Code} {σ : St} {Q : Exit -> St -> Prop} (h : zbt P N x σ (qas P N y Q)) : zbt P N (.seq x y) σ Q := fun n0 w0 A0 g a w h1 h2 h3 h4 => by
 refine wp_seq (wp_mono (h n0 w0 A0 g a w h1 h2 h3 h4) fun e a' w' hq => ?_)
 obtain ⟨σ', g', k1, k2, k3, k4, k5⟩ := hq
 cases e with
 | normal => exact k1 n0 w0 A0 g' a' w' k2 k3 k4 k5
 | exit i => exact ⟨σ', g', k1, k2, k3, k4, k5⟩
 | goto l => exact ⟨σ', g', k1, k2, k3, k4, k5⟩
 | ret => exact ⟨σ', g', k1, k2, k3, k4, k5⟩
 | panic ch => exact ⟨σ', g', k1, k2, k3, k4, k5⟩
 | outgrown => exact ⟨σ', g', k1, k2, k3, k4, k5⟩
def qhk : Nat -> Code -> Code
 | 0, .seq x _ => x
 | n + 1, .seq x y => .seq x (qhk n y)
 | _, c => c
def sufC : Nat -> Code -> Code
 | 0, .seq _ y => y
 | n + 1, .seq _ y => sufC n y
 | _, _ => .skip
def okC : Nat -> Code -> Bool
 | 0, .seq _ _ => true
 | n + 1, .seq _ y => okC n y
 | _, _ => false
theorem zbt.cut : ∀ (n : Nat) {c : Code} {σ : St} {Q : Exit -> St -> Prop}, okC n c = true -> zbb N (qhk n c) = true -> ex P (qhk n c) [] (qas P N (sufC n c) Q) σ -> zbt P N c σ Q
 | 0, .seq x y, σ, Q, _, hd, h => zbt.seq (zbt.ofEx hd h)
 | n + 1, .seq x y, σ, Q, ho, hd, h => by
  simp only [qhk, zbb, Bool.and_eq_true] at hd
  refine zbt.seq (zbt.mono (fun e σ' k => ?_) (zbt.ofEx (Q := _) hd.1 h))
  cases e with
  | normal => exact zbt.cut n ho hd.2 k
  | exit i => exact k
  | goto l => exact k
  | ret => exact k
  | panic ch => exact k
  | outgrown => exact k
def blkQ (i : Nat) (Q : Exit -> St -> Prop) (e : Exit) (σ : St) : Prop := match e with | .exit j => if j = i then Q .normal σ else Q (.exit j) σ | e => Q e σ
theorem zro (i : Nat) (Q : Exit -> St -> Prop) (σ : St) : blkQ i Q .normal σ = Q .normal σ := rfl
theorem qfr (i : Nat) (Q : Exit -> St -> Prop) (σ : St) : blkQ i Q .ret σ = Q .ret σ := rfl
theorem zqu (i j : Nat) (Q : Exit -> St -> Prop) (σ : St) : blkQ i Q (.exit j) σ = if j = i then Q .normal σ else Q (.exit j) σ := rfl
theorem zbt.block {i : Nat} {c : Code} {σ : St} {Q : Exit -> St -> Prop} (h : zbt P N c σ (blkQ i Q)) : zbt P N (.block i c) σ Q := fun n0 w0 A0 g a w h1 h2 h3 h4 => by
 refine wp_block (wp_mono (h n0 w0 A0 g a w h1 h2 h3 h4) fun e a' w' hq => ?_)
 obtain ⟨σ', g', k1, k2, k3, k4, k5⟩ := hq
 cases e with
 | exit j =>
  simp only [Exit.inBlock]
  simp only [zqu] at k1
  split at k1
  ·rw [if_pos ‹_›]; exact ⟨σ', g', k1, k2, k3, k4, k5⟩
  ·rw [if_neg ‹_›]; exact ⟨σ', g', k1, k2, k3, k4, k5⟩
 | normal => exact ⟨σ', g', k1, k2, k3, k4, k5⟩
 | goto l => exact ⟨σ', g', k1, k2, k3, k4, k5⟩
 | ret => exact ⟨σ', g', k1, k2, k3, k4, k5⟩
 | panic ch => exact ⟨σ', g', k1, k2, k3, k4, k5⟩
 | outgrown => exact ⟨σ', g', k1, k2, k3, k4, k5⟩
def lpQ {X : Type} (I : X -> St) (Pr : X -> Prop) (μ : X -> Nat) (x : X) (Q : Exit -> St -> Prop) (e : Exit) (σ : St) : Prop := match e with | .normal => ∃ x', Pr x' /\ μ x' < μ x /\ Wk σ (I x') | e => Q e σ
section
variable {X : Type} (I : X -> St) (Pr : X -> Prop) (μ : X -> Nat) (x : X)
theorem zx7 (Q : Exit -> St -> Prop) (σ : St) : lpQ I Pr μ x Q .normal σ = ∃ x', Pr x' /\ μ x' < μ x /\ Wk σ (I x') := rfl
theorem qk8 (Q : Exit -> St -> Prop) (σ : St) : lpQ I Pr μ x Q .ret σ = Q .ret σ := rfl
theorem qfi (Q : Exit -> St -> Prop) (σ : St) (i : Nat) : lpQ I Pr μ x Q (.exit i) σ = Q (.exit i) σ := rfl
end
theorem zbt.loop {b : Code} {σ : St} {Q : Exit -> St -> Prop} {X : Type} (I : X -> St) (Pr : X -> Prop) (μ : X -> Nat) (x0 : X) (h0 : Wk σ (I x0)) (p0 : Pr x0) (hr : ∀ x, Pr x -> zbt P N b (I x) (lpQ I Pr μ x Q)) : zbt P N (.loop b) σ Q := fun n0 w0 A0 g a w h1 h2 h3 h4 => by
 refine zmb (fun n a w => ∃ x g1, Pr x /\ μ x = n /\ Rel n0 N (I x) g1 a w /\ LtK n0 w /\ Bk n0 w0 w /\ (g1.A0, g1.R0) = A0) ?_ (n := μ x0) (by obtain ⟨g0, r1, r2, r3⟩ := h0 _ _ _ _ _ h1; exact ⟨x0, g0, p0, rfl, r1, h2, h3, by rw [r2, r3]; exact h4⟩)
 rintro n a w ⟨x, g1, px, rfl, k2, k3, k4, k5⟩
 refine wp_mono (hr x px n0 w0 A0 g1 a w k2 k3 k4 k5) fun e a' w' hq => ?_
 obtain ⟨σ', g', h1, h2, h3, h4, h5⟩ := hq
 cases e with
 | normal =>
  obtain ⟨x', p', hlt, hwk⟩ := h1
  obtain ⟨g2, r1, r2, r3⟩ := hwk _ _ _ _ _ h2
  exact ⟨μ x', hlt, x', g2, p', rfl, r1, h3, h4, by rw [r2, r3]; exact h5⟩
 | exit i => exact ⟨σ', g', h1, h2, h3, h4, h5⟩
 | goto l => exact ⟨σ', g', h1, h2, h3, h4, h5⟩
 | ret => exact ⟨σ', g', h1, h2, h3, h4, h5⟩
 | panic ch => exact ⟨σ', g', h1, h2, h3, h4, h5⟩
 | outgrown => exact ⟨σ', g', h1, h2, h3, h4, h5⟩
theorem qkd {f : FuncId} {fn : Func} {c : Code} {args : List (Bool × D)} {res : List D} (hc : zaz P f) (hf : P.funcs[f]? = some fn) (hb : fn.body = some c) (hN : args.length <= fn.ntmps) (hs : zbo args)
  (h : ∀ (w : World) (vs : List Value) (fp tp : List Nat), zar w (fun b => b < w.heap.size /\ b ∉ fp) args vs fp tp -> ∀ (g : Gh) (a : Act), Rel (fun b => b < w.heap.size /\ b ∉ fp) fn.ntmps (zdc args) g a w -> (a.tmps = (⟨vs⟩ : Array Value) ++ Array.replicate (fn.ntmps - vs.length) undef /\ (g.A0, g.R0) = ((fun _ => True), RP.of fun b => b ∈ fp \/ w.heap.size <= b)) →
   ∃ σ0, zbt P fn.ntmps c σ0 (PS P fn.results.toList res) /\ Rel (fun b => b < w.heap.size /\ b ∉ fp) fn.ntmps σ0 g a w) : GC P f args res := by
 refine ⟨hc, fun w vs fp tp hv hn => ?_⟩
 refine calls_of_wp hf hb ?_
 have hv' : zar w (fun b => b < w.heap.size /\ True /\ b ∉ fp) args vs fp tp := zar.keepA (fun b hb => ⟨hb.1, trivial, hb.2⟩) hv
 obtain ⟨g, hg, hR⟩ := Rel.start (A0 := fun _ => True) (R0 := RP.of fun b => b ∈ fp \/ w.heap.size <= b) (N := fn.ntmps) hv' hn hs hN (fun _ _ => trivial) (fun b hb => ⟨trivial, Or.inl hb⟩) (fun b hb => ⟨trivial, by
  by_cases hlt : b < w.heap.size
  ·exact Or.inl (Classical.byContradiction fun h => hb ⟨hlt, h⟩)
  ·exact Or.inr (by omega)⟩)
 obtain ⟨σ0, hex, hR0⟩ := h w vs fp tp hv g _ hR ⟨rfl, hg⟩
 refine wp_mono (hex _ w _ g _ w hR0 (fun k hk => hk.1) (Bk.refl _ _) hg) fun e a' w' hq => ?_
 obtain ⟨σ', g', h1, h2, h3, h4, h5⟩ := hq
 have fin : ∀ {us : List Value} {v : Value}, (results fn a'.tmps).run P w' = .ok v w' -> v = zbp us -> (∃ fp' tp', GDs w' res us fp' tp' /\ fp'.Nodup /\ ∀ b ∈ fp', ∃ e, σ'.On e /\ b ∈ g'.φ e) -> ∃ v, (results fn a'.tmps).run P w' = .ok v w' /\ ∃ us fp' tp', Ending.returned v = .returned (zbp us) /\ GDs w' res us fp' tp' /\ fp'.Nodup /\ (∀ b ∈ fp', b ∈ fp \/ w.heap.size <= b) /\ Bk (fun k => k < w.heap.size /\ k ∉ fp) w w' := fun {us v} r1 rv ⟨fp', tp', o1, o2, o3⟩ => by
  refine ⟨_, r1, us, fp', tp', by rw [rv], o1, o2, fun b hb => ?_, h4⟩
  obtain ⟨e, l, m⟩ := o3 b hb
  have := (h2.ebase e l b m).2
  rw [(Prod.mk.inj h5).2] at this
  exact this
 have key : (zaq (zbg P σ' fn.results.toList) (fun vs => zu2 σ' [] vs res) \/ PX P fn.results.toList res σ') -> ∃ v, (results fn a'.tmps).run P w' = .ok v w' /\ ∃ us fp' tp', Ending.returned v = .returned (zbp us) /\ GDs w' res us fp' tp' /\ fp'.Nodup /\ (∀ b ∈ fp', b ∈ fp \/ w.heap.size <= b) /\ Bk (fun k => k < w.heap.size /\ k ∉ fp) w w' := fun hk => by
  rcases hk with hk | ⟨pl, hk⟩
  ·obtain ⟨vs, hvs, hk⟩ := zan hk
   obtain ⟨us, r1, r2⟩ := zbi h2 fn hvs
   obtain ⟨used, fp', tp', o1, o2⟩ := zc5 h2 hk r2
   exact fin r1 rfl ⟨fp', tp', o1, o2.1, fun b hb => by obtain ⟨e, _, _, l, m⟩ := o2.2.1 b hb; exact ⟨e, l, m⟩⟩
  ·obtain ⟨vs, hvs, hk⟩ := zan hk
   obtain ⟨us, r1, r2⟩ := zbi h2 fn hvs
   exact fin r1 rfl (qeq h2 hk r2)
 cases e with
 | normal => exact ⟨h2.defers, key h1⟩
 | ret => exact ⟨h2.defers, key h1⟩
 | exit _ => exact h1.elim
 | goto _ => exact h1.elim
 | panic _ => exact h1.elim
 | outgrown => exact h1.elim
theorem qbb {f : FuncId} {fn : Func} {c : Code} {args res : List D} (hc : zaz P f) (hf : P.funcs[f]? = some fn) (hb : fn.body = some c) (hN : (rd args).length <= fn.ntmps)
  (h : zbt P fn.ntmps c (zgq args) (PS P fn.results.toList res)) : FC P f args res := by
 refine qkd hc hf hb hN (zch args) fun w vs fp tp hv g a hR hg => ?_
 obtain ⟨hr, rfl, rfl⟩ := zcp hv
 exact ⟨zgq args, h, zj2 hr hR hg⟩
structure RelM (n0 : Nat -> Prop) (N : Nat) (σ : St) (ag : Bool) (rows : List (List T)) (b : Nat) (A0 : (Nat -> Prop) × RP) (g : Gh) (a : Act) (w : World) : Prop where
 rel : ∃ (n1 : Nat -> Prop) (es : Array MapEntry) (clk : Nat), (∀ x, n0 x -> n1 x) /\ n1 b /\ ¬ g.A0 b /\ Rel n1 N σ g a w /\ LtK n1 w /\ w.heap[b]? = some (.map es clk) /\ za0 w (fun x => n1 x /\ g.A0 x) ag rows es.toList
 nb : ¬ n0 b
 sub : ∀ x, g.A0 x -> A0.1 x
 r0 : g.R0 = A0.2
 new : ∀ x, ¬ n0 x -> A0.1 x /\ A0.2 x
def zoy (n0 : Nat -> Prop) (N : Nat) (w0 : World) (A0 : (Nat -> Prop) × RP) (ag : Bool) (b : Nat) (Q : Exit -> St -> List (List T) -> Prop) (e : Exit) (a : Act) (w : World) : Prop := ∃ σ rows g, Q e σ rows /\ RelM n0 N σ ag rows b A0 g a w /\ LtK n0 w /\ Bk n0 w0 w
def zfb (P : Program) (N : Nat) (ag : Bool) (b : Nat) (c : Code) (σ : St) (rows : List (List T)) (Q : Exit -> St -> List (List T) -> Prop) : Prop := ∀ n0 w0 A0 g a w, RelM n0 N σ ag rows b A0 g a w -> LtK n0 w -> Bk n0 w0 w -> c.wp P (zoy n0 N w0 A0 ag b Q) a w
section
variable {ag : Bool} {b : Nat}
theorem zoy.mono {n0 : Nat -> Prop} {w0 : World} {A0 : (Nat -> Prop) × RP} {Q Q' : Exit -> St -> List (List T) -> Prop} (h : ∀ e σ r, Q e σ r -> Q' e σ r) {e : Exit} {a : Act} {w : World} : zoy n0 N w0 A0 ag b Q e a w -> zoy n0 N w0 A0 ag b Q' e a w
 | ⟨σ, r, g, h1, h2⟩ => ⟨σ, r, g, h _ _ _ h1, h2⟩
theorem zfb.mono {c : Code} {σ : St} {rows : List (List T)} {Q Q' : Exit -> St -> List (List T) -> Prop} (h : ∀ e σ r, Q e σ r -> Q' e σ r) (k : zfb P N ag b c σ rows Q) : zfb P N ag b c σ rows Q' := fun n0 w0 A0 g a w h1 h2 h3 => wp_mono (k n0 w0 A0 g a w h1 h2 h3) fun _ _ _ => zoy.mono h
theorem RelM.keep {n0 n1 : Nat -> Prop} {σ σ' : St} {rows : List (List T)} {A0 : (Nat -> Prop) × RP} {g g' : Gh} {a a' : Act} {w w' : World} {es : Array MapEntry} {clk : Nat} (h : RelM n0 N σ ag rows b A0 g a w) (hn : ∀ x, n0 x -> n1 x) (hb : n1 b) (hA : ¬ g.A0 b) (he : w.heap[b]? = some (.map es clk)) (hr : za0 w (fun x => n1 x /\ g.A0 x) ag rows es.toList)
  (h2 : Rel n1 N σ' g' a' w') (h3 : LtK n1 w') (h4 : Bk n1 w w') (h5 : (g'.A0, g'.R0) = (g.A0, g.R0)) : RelM n0 N σ' ag rows b A0 g' a' w' := by
 have e1 : g'.A0 = g.A0 := (Prod.mk.inj h5).1
 have e2 : g'.R0 = g.R0 := (Prod.mk.inj h5).2
 exact ⟨⟨n1, es, clk, hn, hb, by rw [e1]; exact hA, h2, h3, (h4.block b hb).trans he, za0.keep (fun x hx => h4.block x hx.1) (fun x hx => ⟨hx.1, by rw [e1]; exact hx.2⟩) ag rows _ hr⟩, h.nb, by rw [e1]; exact h.sub, by rw [e2]; exact h.r0, h.new⟩
theorem qi6 {n0 n1 : Nat -> Prop} {w w' : World} (hn : ∀ x, n0 x -> n1 x) (h : Bk n1 w w') : Bk n0 w w' := ⟨h.os, h.tape, h.output, h.size, fun k hk => h.block k (hn k hk)⟩
theorem zfb.ofEx {c : Code} {σ : St} {rows : List (List T)} {Q : Exit -> St -> List (List T) -> Prop} (hd : zbb N c = true) (h : ex P c [] (fun e σ' => Q e σ' rows) σ) : zfb P N ag b c σ rows Q := fun n0 w0 A0 g a w hM h2 h3 => by
 obtain ⟨n1, es, clk, k1, k2, k3, k4, k5, k6, k7⟩ := hM.rel
 refine wp_mono (zbe (w0 := w) (A0 := (g.A0, g.R0)) c σ _ hd h g a w k4 k5 (Bk.refl _ _) rfl) fun e a' w' hq => ?_
 obtain ⟨σ', g', h1, m2, m3, m4, m5⟩ := hq
 exact ⟨σ', rows, g', h1, hM.keep k1 k2 k3 k6 k7 m2 m3 m4 m5, h2.mono m4.size, h3.trans (qi6 k1 m4)⟩
def qac (P : Program) (N : Nat) (ag : Bool) (b : Nat) (c : Code) (Q : Exit -> St -> List (List T) -> Prop) (e : Exit) (σ : St) (rows : List (List T)) : Prop := match e with | .normal => zfb P N ag b c σ rows Q | e => Q e σ rows
theorem zqe (c : Code) (Q : Exit -> St -> List (List T) -> Prop) (σ : St) (rows : List (List T)) : qac P N ag b c Q .normal σ rows = zfb P N ag b c σ rows Q := rfl
theorem zwt (c : Code) (Q : Exit -> St -> List (List T) -> Prop) (σ : St) (rows : List (List T)) (i : Nat) : qac P N ag b c Q (.exit i) σ rows = Q (.exit i) σ rows := rfl
theorem zfb.seq {x y : Code} {σ : St} {rows : List (List T)} {Q : Exit -> St -> List (List T) -> Prop} (h : zfb P N ag b x σ rows (qac P N ag b y Q)) : zfb P N ag b (.seq x y) σ rows Q := fun n0 w0 A0 g a w h1 h2 h3 => by
 refine wp_seq (wp_mono (h n0 w0 A0 g a w h1 h2 h3) fun e a' w' hq => ?_)
 obtain ⟨σ', r', g', k1, k2, k3, k4⟩ := hq
 cases e with
 | normal => exact k1 n0 w0 A0 g' a' w' k2 k3 k4
 | exit i => exact ⟨σ', r', g', k1, k2, k3, k4⟩
 | goto l => exact ⟨σ', r', g', k1, k2, k3, k4⟩
 | ret => exact ⟨σ', r', g', k1, k2, k3, k4⟩
 | panic ch => exact ⟨σ', r', g', k1, k2, k3, k4⟩
 | outgrown => exact ⟨σ', r', g', k1, k2, k3, k4⟩
theorem zfb.cut : ∀ (n : Nat) {c : Code} {σ : St} {rows : List (List T)} {Q : Exit -> St -> List (List T) -> Prop}, okC n c = true -> zbb N (qhk n c) = true -> ex P (qhk n c) [] (fun e σ' => qac P N ag b (sufC n c) Q e σ' rows) σ -> zfb P N ag b c σ rows Q
 | 0, .seq x y, σ, rows, Q, _, hd, h => zfb.seq (zfb.ofEx hd h)
 | n + 1, .seq x y, σ, rows, Q, ho, hd, h => by
  simp only [qhk, zbb, Bool.and_eq_true] at hd
  refine zfb.seq (zfb.mono (Q := fun e σ' r => r = rows /\ zwe P [.seq (qhk n y)] (fun e σ' => qac P N ag b (sufC n y) Q e σ' rows) e σ') (fun e σ' r k => ?_) (zfb.ofEx hd.1 (zce (fun e σ' k => ⟨rfl, k⟩) h)))
  obtain ⟨rfl, k⟩ := k
  cases e with
  | normal => exact zfb.cut n ho hd.2 k
  | exit i => exact k
  | goto l => exact k
  | ret => exact k
  | panic ch => exact k
  | outgrown => exact k
def blkM (i : Nat) (Q : Exit -> St -> List (List T) -> Prop) (e : Exit) (σ : St) (rows : List (List T)) : Prop := match e with | .exit j => if j = i then Q .normal σ rows else Q (.exit j) σ rows | e => Q e σ rows
theorem zry (i : Nat) (Q : Exit -> St -> List (List T) -> Prop) (σ : St) (rows : List (List T)) : blkM i Q .normal σ rows = Q .normal σ rows := rfl
theorem zpi (i j : Nat) (Q : Exit -> St -> List (List T) -> Prop) (σ : St) (rows : List (List T)) : blkM i Q (.exit j) σ rows = if j = i then Q .normal σ rows else Q (.exit j) σ rows := rfl
theorem zfb.block {i : Nat} {c : Code} {σ : St} {rows : List (List T)} {Q : Exit -> St -> List (List T) -> Prop} (h : zfb P N ag b c σ rows (blkM i Q)) : zfb P N ag b (.block i c) σ rows Q := fun n0 w0 A0 g a w h1 h2 h3 => by
 refine wp_block (wp_mono (h n0 w0 A0 g a w h1 h2 h3) fun e a' w' hq => ?_)
 obtain ⟨σ', r', g', k1, k2, k3, k4⟩ := hq
 cases e with
 | exit j =>
  simp only [Exit.inBlock]
  simp only [zpi] at k1
  split at k1
  ·rw [if_pos ‹_›]; exact ⟨σ', r', g', k1, k2, k3, k4⟩
  ·rw [if_neg ‹_›]; exact ⟨σ', r', g', k1, k2, k3, k4⟩
 | normal => exact ⟨σ', r', g', k1, k2, k3, k4⟩
 | goto l => exact ⟨σ', r', g', k1, k2, k3, k4⟩
 | ret => exact ⟨σ', r', g', k1, k2, k3, k4⟩
 | panic ch => exact ⟨σ', r', g', k1, k2, k3, k4⟩
 | outgrown => exact ⟨σ', r', g', k1, k2, k3, k4⟩
theorem RelM.wk {n0 : Nat -> Prop} {σ σ' : St} {rows : List (List T)} {A0 : (Nat -> Prop) × RP} {g : Gh} {a : Act} {w : World} (h : RelM n0 N σ ag rows b A0 g a w) (k : Wk σ σ') : ∃ g', RelM n0 N σ' ag rows b A0 g' a w := by
 obtain ⟨n1, es, clk, k1, k2, k3, k4, k5, k6, k7⟩ := h.rel
 obtain ⟨g', r1, r2, r3⟩ := k _ _ _ _ _ k4
 exact ⟨g', h.keep k1 k2 k3 k6 k7 r1 k5 (Bk.refl _ _) (by rw [r2, r3])⟩
def lpM {X : Type} (I : X -> St) (J : X -> List (List T)) (Pr : X -> Prop) (μ : X -> Nat) (x : X) (Q : Exit -> St -> List (List T) -> Prop) (e : Exit) (σ : St) (rows : List (List T)) : Prop := match e with | .normal => ∃ x', Pr x' /\ μ x' < μ x /\ J x' = rows /\ Wk σ (I x') | e => Q e σ rows
section
variable {X : Type} (I : X -> St) (J : X -> List (List T)) (Pr : X -> Prop) (μ : X -> Nat) (x : X)
theorem zxl (Q : Exit -> St -> List (List T) -> Prop) (σ : St) (rows : List (List T)) : lpM I J Pr μ x Q .normal σ rows = ∃ x', Pr x' /\ μ x' < μ x /\ J x' = rows /\ Wk σ (I x') := rfl
theorem qhz (Q : Exit -> St -> List (List T) -> Prop) (σ : St) (rows : List (List T)) (i : Nat) : lpM I J Pr μ x Q (.exit i) σ rows = Q (.exit i) σ rows := rfl
theorem zfb.loop {c : Code} {σ : St} {rows : List (List T)} {Q : Exit -> St -> List (List T) -> Prop} (x0 : X) (h0 : Wk σ (I x0)) (j0 : J x0 = rows) (p0 : Pr x0) (hr : ∀ x, Pr x -> zfb P N ag b c (I x) (J x) (lpM I J Pr μ x Q)) : zfb P N ag b (.loop c) σ rows Q := fun n0 w0 A0 g a w h1 h2 h3 => by
 subst j0
 refine zmb (fun n a w => ∃ x g1, Pr x /\ μ x = n /\ RelM n0 N (I x) ag (J x) b A0 g1 a w /\ LtK n0 w /\ Bk n0 w0 w) ?_ (n := μ x0) (by obtain ⟨g0, r1⟩ := h1.wk h0; exact ⟨x0, g0, p0, rfl, r1, h2, h3⟩)
 rintro n a w ⟨x, g1, px, rfl, k2, k3, k4⟩
 refine wp_mono (hr x px n0 w0 A0 g1 a w k2 k3 k4) fun e a' w' hq => ?_
 obtain ⟨σ', r', g', h1, h2, h3, h4⟩ := hq
 cases e with
 | normal =>
  obtain ⟨x', p', hlt, rfl, hwk⟩ := h1
  obtain ⟨g2, r1⟩ := h2.wk hwk
  exact ⟨μ x', hlt, x', g2, p', rfl, r1, h3, h4⟩
 | exit i => exact ⟨σ', r', g', h1, h2, h3, h4⟩
 | goto l => exact ⟨σ', r', g', h1, h2, h3, h4⟩
 | ret => exact ⟨σ', r', g', h1, h2, h3, h4⟩
 | panic ch => exact ⟨σ', r', g', h1, h2, h3, h4⟩
 | outgrown => exact ⟨σ', r', g', h1, h2, h3, h4⟩
end
end
attribute [go_sem] zpc qbt zxp zro qfr zqu zx7 qk8 qfi qhk sufC zqe zwt zry zpi zxl qhz
end Go.Proofs.YtemnhgmgeijkcaaGreat
namespace Go.Proofs.YtemnhgmgeijkcaaGreat
set_option linter.unusedSimpArgs false
set_option linter.unusedVariables false
set_option linter.unusedSectionVars false
set_option maxRecDepth 4000
open Go.RowKit
variable {P : Program} {N : Nat}
theorem zqo {mt kt et : TypeId} {d : TypeDesc} (hm : P.underlying mt = some (.map kt et)) (hd : P.underlying kt = some d) {w : World} {r : Nat} {es : Array MapEntry} {clk : Nat} {key val : Value} (hb : w.heap[r]? = some (.map es clk)) (hk : Go.MapKept.IsKey d key) (hf : Instr.findNow d key es.toList 0 = some none) :
  (Instr.mapUpdate mt (.map (some r)) key val).run P w = .ok () { w with heap := w.heap.setIfInBounds r (.map (es.push { key, val, born := clk }) (clk + 1)) } := by
 simp [Instr.mapUpdate, run_underlying hm, Go.MapKept.run_getObj_map hb, Go.MapKept.run_checkKey hd hk, Go.MapKept.run_findKey hd hf, Go.MapKept.run_setObj_map _ hb, Result.andThen]
theorem zpq {mt : TypeId} {w : World} : (Instr.makeMap mt none).run P w = .ok (.map (some w.heap.size)) (w.alloc (.map #[] 0)) := by
 simp [Instr.makeMap, Result.andThen]
theorem znz {ops : Array Oper} {K : St -> Prop} {n0 : Nat -> Prop} {w0 : World} {A0 : (Nat -> Prop) × RP} {R : Exit -> Act -> World -> Prop} {rest : List Nat} (hg : ∀ o ∈ ops.toList, o.guard = none) (hR : ∀ a w σ g, K σ -> Rel n0 N σ g a w -> LtK n0 w -> Bk n0 w0 w -> (g.A0, g.R0) = A0 -> wpOps P ops R rest a w) :
  ∀ (k i : Nat), i + k <= ops.size -> (∀ o ∈ ops.toList, ∀ d, o.dst = some d -> d < N) -> ∀ (σ : St) (g : Gh) (a : Act) (w : World), zbj P ops ((ops.toList.drop i).take k) σ K -> Rel n0 N σ g a w -> LtK n0 w -> Bk n0 w0 w -> (g.A0, g.R0) = A0 -> wpOps P ops R (List.range' i k ++ rest) a w
 | 0, i, hi, hd, σ, g, a, w, h, hr, hn, hb, hA => by
  rw [List.take_zero] at h
  exact hR a w σ g h hr hn hb hA
 | k + 1, i, hi, hd, σ, g, a, w, h, hr, hn, hb, hA => by
  have hlt : i < ops.size := by omega
  have hcons : ops.toList.drop i = ops[i] :: ops.toList.drop (i + 1) := by
   rw [List.drop_eq_getElem_cons (by simpa using hlt)]; rfl
  rw [hcons, List.take_succ_cons] at h
  rw [show List.range' i (k + 1) ++ rest = i :: (List.range' (i + 1) k ++ rest) from rfl, wpOps_cons]
  have ho : ops[i]? = some ops[i] := by simp [hlt]
  have hdi : ∀ d, ops[i].dst = some d -> d < N := hd _ (by simp)
  have hgi : ops[i].guard = none := hg _ (by simp)
  unfold wpOp
  simp only [ho]
  unfold zbj exG at h
  rw [hgi] at h
  have : Region.wanted ops[i] (yielded ops a.tmps) = true := by simp [Region.wanted, hgi]
  rw [if_pos this]
  exact Or.inl (zee (fun a' w' ⟨σ', g', h0, k1, k2, k3, k4⟩ => znz hg hR k (i + 1) (by omega) hd σ' g' a' w' h0 k1 (hn.mono k2.size) (hb.trans k2) (by rw [k3, k4]; exact hA)) (zey h n0 N g a w hr hn hdi))
def mvC : C -> Option T
 | .rn t => some t
 | .t t => if t.flat = true then some t else none
 | _ => none
def mvCs : List C -> Option (List T)
 | [] => some []
 | c :: cs => (mvC c).bind fun t => (mvCs cs).map fun ts => t :: ts
def mvV (ag : Bool) : V -> Option (List T)
 | .agg cs => if ag = true then mvCs cs else none
 | .one c => if ag = true then none else (mvC c).map fun t => [t]
 | _ => none
theorem qcr {σ : St} {g : Gh} {w : World} {A : Nat -> Prop} (hA : ∀ b, zca σ g w b -> A b) {c : C} {t : T} {v : Value} (h : mvC c = some t) (hv : CR σ g w c v) : zao w A t v := by
 cases c <;> simp only [mvC, Option.some.injEq, reduceCtorEq] at h
 ·split at h
  ·rename_i hf
   obtain rfl := Option.some.inj h
   exact zds hf hv
  ·cases h
 ·subst h
  exact zao.keep (fun _ _ => rfl) hA _ _ hv
theorem zvv {σ : St} {g : Gh} {w : World} {A : Nat -> Prop} (hA : ∀ b, zca σ g w b -> A b) : ∀ {cs : List C} {ts : List T} {vs : List Value}, mvCs cs = some ts -> CRs σ g w cs vs -> zae w A ts vs
 | [], ts, vs, h, hv => by
  obtain rfl := Option.some.inj h
  unfold zae
  exact hv
 | c :: cs, ts, vs, h, hv => by
  obtain ⟨t, h1, h⟩ := Option.bind_eq_some_iff.1 h
  obtain ⟨ts', h2, rfl⟩ := Option.map_eq_some_iff.1 h
  obtain ⟨v, vs', rfl, k1, k2⟩ := hv
  unfold zae
  exact ⟨v, vs', rfl, qcr hA h1 k1, zvv hA h2 k2⟩
theorem qk7 {σ : St} {g : Gh} {w : World} {A : Nat -> Prop} (hA : ∀ b, zca σ g w b -> A b) {ag : Bool} {x : V} {ts : List T} {v : Value} (h : mvV ag x = some ts) (hv : VR σ g w x v) : ∃ us, (if ag = true then v = .agg ⟨us⟩ else us = [v]) /\ zae w A ts us := by
 cases x with
 | agg cs =>
  simp only [mvV] at h
  split at h
  ·rename_i hag
   obtain ⟨us, rfl, hc⟩ := hv
   exact ⟨us, by rw [if_pos hag], zvv hA h hc⟩
  ·cases h
 | one c =>
  simp only [mvV] at h
  split at h
  ·cases h
  ·rename_i hag
   obtain ⟨t, h1, rfl⟩ := Option.map_eq_some_iff.1 h
   refine ⟨[v], by rw [if_neg hag], ?_⟩
   unfold zae
   refine ⟨v, [], rfl, qcr hA h1 hv, ?_⟩
   unfold zae; rfl
 | tup _ => cases h
theorem za0.push {w : World} {A : Nat -> Prop} {ag : Bool} {r : List T} {e : MapEntry} (he : ∃ us, (if ag = true then e.val = .agg ⟨us⟩ else us = [e.val]) /\ zae w A r (e.key :: us)) : ∀ {rows : List (List T)} {es : List MapEntry}, za0 w A ag rows es -> za0 w A ag (rows ++ [r]) (es ++ [e])
 | [], es, h => by
  unfold za0 at h
  subst h
  obtain ⟨us, h1, h2⟩ := he
  show za0 w A ag [r] [e]
  unfold za0
  refine ⟨e, [], us, rfl, h1, h2, ?_⟩
  unfold za0; rfl
 | _ :: rows, es, h => by
  unfold za0 at h
  obtain ⟨e', es', us, rfl, h1, h2, h3⟩ := h
  show za0 w A ag (_ :: (rows ++ [r])) (e' :: (es' ++ [e]))
  unfold za0
  exact ⟨e', _, us, rfl, h1, h2, za0.push he h3⟩
def updM (P : Program) (ag : Bool) (b : Nat) (mt : TypeId) (x k v : Operand) (σ : St) (rows : List (List T)) (K : St -> List (List T) -> Prop) : Prop := match σ.get P 0 x, σ.get P 0 k, mapT P mt, mvV ag (σ.get P 0 v) with
 | .one (.cv (.map (some b'))), .one (.t kT), some (d, _), some vts => b' = b /\ qb8 d kT = true /\ zd0 kT rows = some none /\ K σ (rows ++ [kT :: vts])
 | _, _, _, _ => False
theorem qlf {ag : Bool} {b : Nat} {mt : TypeId} {x k v : Operand} {σ : St} {rows : List (List T)} {K : St -> List (List T) -> Prop} (h : updM P ag b mt x k v σ rows K) : ∃ kT d et vts, σ.get P 0 x = .one (.cv (.map (some b))) /\ σ.get P 0 k = .one (.t kT) /\ mapT P mt = some (d, et) /\ mvV ag (σ.get P 0 v) = some vts /\ qb8 d kT = true /\ zd0 kT rows = some none /\ K σ (rows ++ [kT :: vts]) := by
 unfold updM at h
 split at h
 ·rename_i b' kT d et vts h1 h2 h3 h4
  obtain ⟨rfl, h5, h6, h7⟩ := h
  exact ⟨kT, d, et, vts, h1, h2, h3, h4, h5, h6, h7⟩
 ·exact h.elim
theorem zpw {d : TypeDesc} {k : T} (h : qb8 d k = true) : k.flat = true := by
 cases d <;> cases k <;> simp [qb8] at h <;> rfl
section
variable {ag : Bool} {b : Nat}
theorem zfb.upd {i : Nat} {ops : Array Oper} {mt : TypeId} {x k v : Operand} {ty : TypeId} {ps : String} {af : Array Edge} {σ : St} {rows : List (List T)} {Q : Exit -> St -> List (List T) -> Prop} (m : Nat) (hz : ops.size = m + 1) (hl : ops[m]? = some ⟨none, .mapUpdate mt x k v, ty, ps, af, none⟩) (hg : (ops.toList.all fun o => o.guard.isNone) = true) (hd : zbb N (.region i ops false) = true)
  (h : exo P ops (ops.toList.take m) [] (fun _ σ' => updM P ag b mt x k v σ' rows (Q .normal)) σ) : zfb P N ag b (.region i ops false) σ rows Q := fun n0 w0 A0 g a w hM h2 h3 => by
 obtain ⟨n1, es, clk, k1, k2, k3, k4, k5, k6, k7⟩ := hM.rel
 refine wp_region ?_
 have hd' : ∀ o ∈ ops.toList, ∀ d, o.dst = some d -> d < N := fun o ho d hdd => by
  simp only [zbb, Array.all_eq_true_iff_forall_mem] at hd
  have := hd o (by simpa using ho)
  rw [hdd] at this
  simpa using this
 have hg' : ∀ o ∈ ops.toList, o.guard = none := fun o ho => by
  have := List.all_eq_true.1 hg o ho
  simpa using this
 rw [hz, List.range_eq_range', show List.range' 0 (m + 1) = List.range' 0 m ++ [m] by rw [List.range'_1_concat, Nat.zero_add]]
 refine znz (w0 := w) (A0 := (g.A0, g.R0)) hg' ?_ m 0 (by omega) hd' σ g a w (by simpa [exo, zwe] using h) k4 k5 (Bk.refl _ _) rfl
 intro a' w' σ' g' hK m2 m3 m4 m5
 obtain ⟨kT, d, et, vts, c1, c2, c3, c4, c5, c6, c7⟩ := qlf hK
 obtain ⟨kt, t1, t2⟩ := qah c3
 have hM' := hM.keep k1 k2 k3 k6 k7 m2 m3 m4 m5
 have e1 : g'.A0 = g.A0 := (Prod.mk.inj m5).1
 have hA' : ¬ g'.A0 b := by rw [e1]; exact k3
 have he : w'.heap[b]? = some (.map es clk) := (m4.block b k2).trans k6
 have hr : za0 w' (fun x => n1 x /\ g'.A0 x) ag rows es.toList := za0.keep (fun x hx => m4.block x hx.1) (fun x hx => ⟨hx.1, by rw [e1]; exact hx.2⟩) ag rows _ k7
 have v1 := m2.get P 0 x
 have v2 := m2.get P 0 k
 have v3 := m2.get P 0 v
 rw [c1] at v1
 rw [c2] at v2
 have v1 : a'.eval x = .map (some b) := v1
 have v2 : zao w' (Fix σ' g' w') kT (a'.eval k) := v2
 have hfn := zet c5 (zds (A' := fun x => n1 x /\ g'.A0 x) (w' := w') (zpw c5) v2) ag rows es.toList 0 none hr c6
 have hkey := znl c5 v2
 have hrun := zqo t1 t2 (val := a'.eval v) he hkey hfn
 rw [wpOps_cons]
 unfold wpOp
 simp only [hl]
 rw [if_pos (by simp [Region.wanted])]
 refine Or.inl ?_
 unfold Oper.wp
 have hex : (execOp a'.eval ⟨none, .mapUpdate mt x k v, ty, ps, af, none⟩).run P w' = .ok .skip { w' with heap := w'.heap.setIfInBounds b (.map (es.push { key := a'.eval k, val := a'.eval v, born := clk }) (clk + 1)) } := by
  unfold execOp
  simp only [v1, Sem.run_bind, hrun, Result.andThen_ok, Sem.run_pure]
 rw [hex]
 have hh := (Go.MapKept.heap_set (o' := .map (es.push { key := a'.eval k, val := a'.eval v, born := clk }) (clk + 1)) he)
 have hother : ∀ x, x ≠ b -> ({ w' with heap := w'.heap.setIfInBounds b (.map (es.push { key := a'.eval k, val := a'.eval v, born := clk }) (clk + 1)) } : World).heap[x]? = w'.heap[x]? := hh.2
 have hsize : ({ w' with heap := w'.heap.setIfInBounds b (.map (es.push { key := a'.eval k, val := a'.eval v, born := clk }) (clk + 1)) } : World).heap.size = w'.heap.size := by simp
 have hself : ({ w' with heap := w'.heap.setIfInBounds b (.map (es.push { key := a'.eval k, val := a'.eval v, born := clk }) (clk + 1)) } : World).heap[b]? = _ := hh.1
 have hbk : Bk n0 w' { w' with heap := w'.heap.setIfInBounds b (.map (es.push { key := a'.eval k, val := a'.eval v, born := clk }) (clk + 1)) } := ⟨rfl, rfl, rfl, by rw [hsize]; exact Nat.le_refl _, fun j hj => hother j fun e => hM.nb (e ▸ hj)⟩
 have hfree : ∀ y, zca σ' g' w' y -> y < w'.heap.size /\ g'.A0 y := fun y hy => ⟨hy.1.2.2.1, hy.1.2.2.2⟩
 generalize hw : ({ w' with heap := w'.heap.setIfInBounds b (.map (es.push { key := a'.eval k, val := a'.eval v, born := clk }) (clk + 1)) } : World) = w2 at hother hsize hself hbk ⊢
 have hR2 : Rel (fun y => n1 y \/ zca σ' g' w' y) N σ' g' a' w2 := by
  refine m2.turn (n1 := fun y => n1 y \/ zca σ' g' w' y) (A1 := g'.A0) (w' := w2) (fun y hf => ⟨hf.2.2.2, hother y fun e => hA' (e ▸ hf.2.2.2)⟩) (by rw [hsize]; exact Nat.le_refl _) (fun y hy => m2.anew y fun q => hy (Or.inl q)) (fun j hj => ⟨?_, hother _ fun e => m2.base j hj (e ▸ k2)⟩) fun e ho y hy => ⟨?_, (m2.ebase e ho y hy).1, hother _ fun q => m2.etop e ho y hy (q ▸ k2)⟩
  ·rintro (q | q)
   ·exact m2.base j hj q
   ·exact q.1.1 j hj rfl
  ·rintro (q | q)
   ·exact m2.etop e ho y hy q
   ·exact q.2 e ho hy
 obtain ⟨us, u1, u2⟩ := qk7 (A := fun y => (n1 y \/ zca σ' g' w' y) /\ g'.A0 y) (fun y hy => ⟨Or.inr hy, hy.1.2.2.2⟩) c4 v3
 refine ⟨σ', rows ++ [kT :: vts], g', c7, ⟨⟨fun y => n1 y \/ zca σ' g' w' y, es.push { key := a'.eval k, val := a'.eval v, born := clk }, clk + 1, fun y hy => Or.inl (k1 y hy), Or.inl k2, hA', hR2, fun y hy => ?_, hself, ?_⟩, hM'.nb, hM'.sub, hM'.r0, hM'.new⟩, (h2.mono m4.size).mono hbk.size, (h3.trans (qi6 k1 m4)).trans hbk⟩
 ·rw [hsize]
  rcases hy with q | q
  ·exact m3 y q
  ·exact (hfree y q).1
 ·rw [Array.toList_push]
  refine za0.keep (A := fun y => (n1 y \/ zca σ' g' w' y) /\ g'.A0 y) (fun y hy => hother y fun e => hA' (e ▸ hy.2)) (fun y hy => hy) ag _ _ (za0.push ⟨us, u1, ?_⟩ (za0.keep (fun _ _ => rfl) (fun y hy => ⟨Or.inl hy.1, hy.2⟩) ag rows _ hr))
  unfold zae
  exact ⟨_, _, rfl, zds (zpw c5) v2, u2⟩
end
theorem Rel.enter1 {n0 : Nat -> Prop} {σ : St} {g : Gh} {a : Act} {w : World} (h : Rel n0 N σ g a w) (o1 : Obj) :
  Rel (fun b => n0 b \/ b = w.heap.size) N σ { g with A0 := fun b => g.A0 b /\ b ≠ w.heap.size } a (w.alloc o1) := by
 have hs : ∀ b, b < w.heap.size -> (w.alloc o1).heap[b]? = w.heap[b]? := fun b hb => Below.heap_alloc _ _ _ hb
 refine h.turn (fun b hf => ⟨⟨hf.2.2.2, ?_⟩, hs b hf.2.2.1⟩) (by simp) (fun b hb => ?_) (fun k hk => ⟨?_, hs _ (h.lt hk)⟩) (fun e ho b hm => ?_)
 ·have := hf.2.2.1; omega
 ·have h1 : ¬ n0 b := fun k => hb (Or.inl k)
  exact ⟨⟨(h.anew b h1).1, fun e => hb (Or.inr e)⟩, (h.anew b h1).2⟩
 ·have := h.lt hk
  rintro (k1 | k1)
  ·exact h.base k hk k1
  ·omega
 ·have := h.elt ho hm
  refine ⟨?_, ⟨(h.ebase e ho b hm).1, by omega⟩, hs b this⟩
  rintro (k1 | k1)
  ·exact h.etop e ho b hm k1
  ·omega
def onM (ag : Bool) (b d : Nat) (σ : St) (rows : List (List T)) (K : St -> Prop) : Prop := σ.sl d = .one (.cv (.map (some b))) /\ K (σ.put (some d) (.one (.rn (.mp ag rows))))
theorem RelM.leave {n0 : Nat -> Prop} {σ : St} {ag : Bool} {rows : List (List T)} {b d : Nat} {A0 : (Nat -> Prop) × RP} {g : Gh} {a : Act} {w : World} (h : RelM n0 N σ ag rows b A0 g a w) (hd : σ.sl d = .one (.cv (.map (some b)))) :
  ∃ g', Rel n0 N (σ.put (some d) (.one (.rn (.mp ag rows)))) g' a w /\ (g'.A0, g'.R0) = A0 := by
 obtain ⟨n1, es, clk, k1, k2, k3, k4, k5, k6, k7⟩ := h.rel
 have hL : Rel n0 N σ { g with A0 := A0.1 } a w := k4.leave k1 h.sub fun x hx => ⟨(h.new x hx).1, by rw [h.r0]; exact (h.new x hx).2⟩
 have hF : ∀ x, n1 x -> A0.1 x -> zca σ { g with A0 := A0.1 } w x := fun x h1 h2 => ⟨⟨fun k hk e => k4.base k hk (e ▸ h1), fun e y he ho hh => k4.etop e ⟨y, he, ho⟩ x (List.mem_of_mem_head? hh) h1, k5 x h1, h2⟩, fun e ho hm => k4.etop e ho x hm h1⟩
 refine ⟨{ g with A0 := A0.1 }, hL.slots_of rfl rfl hL.defers hL.size fun i => ?_, by show (A0.1, g.R0) = A0; rw [h.r0]⟩
 show VR σ _ w (upd σ.sl d _ i) _
 by_cases hi : i = d
 ·subst hi
  rw [zah]
  have hv := k4.slots i
  rw [hd] at hv
  have hv : a.tmps.getD i (g.R0.ξ i) = .map (some b) := hv
  show CR σ _ w (.rn (.mp ag rows)) (a.tmps.getD i (g.R0.ξ i))
  rw [hv]
  show zao w _ (.mp ag rows) (.map (some b))
  unfold zao
  exact ⟨b, es, clk, rfl, hF b k2 (h.new b h.nb).1, k6, za0.keep (fun _ _ => rfl) (fun x hx => hF x hx.1 (h.sub x hx.2)) ag rows _ k7⟩
 ·rw [zam _ _ hi]
  exact hL.slots i
theorem zbt.scope {i d0 d1 : Nat} {mt t0 t1 : TypeId} {p0 p1 : String} {f0 f1 : Array Edge} {X Y : Code} {σ : St} {Q : Exit -> St -> Prop} {ops : Array Oper} (ag : Bool) (hz : ops.size = 2) (c0 : ops[0]? = some ⟨some d0, .makeMap mt none, t0, p0, f0, none⟩) (c1 : ops[1]? = some ⟨some d1, .assign (.tmp d0), t1, p1, f1, none⟩) (hd : d0 < N /\ d1 < N)
  (h : ∀ b, zfb P N ag b X ((σ.put (some d0) (.one (.cv (.map (some b))))).put (some d1) (.one (.cv (.map (some b))))) [] (fun e σ' rows => e = .normal /\ onM ag b d1 σ' rows fun σ'' => zbt P N Y σ'' Q)) :
  zbt P N (.seq (.region i ops false) (.seq X Y)) σ Q := fun n0 w0 A0 g a w hR h2 h3 h4 => by
 refine wp_seq (wp_region ?_)
 have e0 : (execOp a.eval ⟨some d0, .makeMap mt none, t0, p0, f0, none⟩).run P w = .ok (.value (.map (some w.heap.size))) (w.alloc (.map #[] 0)) := by
  unfold execOp
  simp only [Option.map_none, Sem.run_bind, zpq, Result.andThen_ok, Sem.run_pure]
 have hR1 := (hR.enter1 (.map #[] 0)).put (some d0) (x := .one (.cv (.map (some w.heap.size)))) (v := .map (some w.heap.size)) rfl (fun j hj => by cases hj; exact hd.1)
 have ev : (a.put (some d0) (.map (some w.heap.size))).eval (.tmp d0) = .map (some w.heap.size) := by
  show (a.tmps.setIfInBounds d0 _).getD d0 undef = _
  exact zdn hR.size hd.1 _ _
 have hR2 := hR1.put (some d1) (x := .one (.cv (.map (some w.heap.size)))) (v := .map (some w.heap.size)) rfl (fun j hj => by cases hj; exact hd.2)
 rw [hz]
 show wpOps P _ _ [0, 1] a w
 rw [wpOps_cons]
 unfold wpOp
 simp only [c0]
 rw [if_pos (by simp [Region.wanted])]
 refine Or.inl ?_
 unfold Oper.wp
 rw [e0]
 show wpOps P _ _ [1] _ _
 rw [wpOps_cons]
 unfold wpOp
 simp only [c1]
 rw [if_pos (by simp [Region.wanted])]
 refine Or.inl ?_
 unfold Oper.wp
 have e1 : ∀ (a : Act) (w : World), (execOp a.eval ⟨some d1, .assign (.tmp d0), t1, p1, f1, none⟩).run P w = .ok (.value (a.eval (.tmp d0))) w := fun a w => rfl
 rw [e1, ev]
 have hbk : Bk n0 w (w.alloc (.map #[] 0)) := ⟨rfl, rfl, rfl, by simp, fun k hk => Below.heap_alloc w _ k (h2 k hk)⟩
 have hM : RelM n0 N ((σ.put (some d0) (.one (.cv (.map (some w.heap.size))))).put (some d1) (.one (.cv (.map (some w.heap.size))))) ag [] w.heap.size A0 { g with A0 := fun b => g.A0 b /\ b ≠ w.heap.size } ((a.put (some d0) (.map (some w.heap.size))).put (some d1) (.map (some w.heap.size))) (w.alloc (.map #[] 0)) := by
  refine ⟨⟨fun b => n0 b \/ b = w.heap.size, #[], 0, fun x hx => Or.inl hx, Or.inr rfl, fun q => q.2 rfl, hR2, fun x hx => ?_, (Go.MapKept.heap_alloc w _).1, ?_⟩, h2.new (Nat.le_refl _), fun x hx => ?_, ?_, fun x hx => ?_⟩
  ·rcases hx with q | q
   ·have := h2 x q; simp; omega
   ·simp; omega
  ·unfold za0; rfl
  ·rw [<- h4]; exact hx.1
  ·rw [<- h4]
  ·rw [<- h4]; exact hR.anew x hx
 refine wp_seq (wp_mono (h w.heap.size n0 w0 A0 _ _ _ hM (h2.mono hbk.size) (h3.trans hbk)) fun e a' w' hq => ?_)
 obtain ⟨σ', rows, g', ⟨rfl, q1, q2⟩, q3, q4, q5⟩ := hq
 obtain ⟨g'', r1, r2⟩ := q3.leave q1
 exact q2 n0 w0 A0 g'' a' w' r1 q4 q5 r2
end Go.Proofs.YtemnhgmgeijkcaaGreat
namespace Go.Proofs.YtemnhgmgeijkcaaGreat
set_option linter.unusedSimpArgs false
set_option linter.unusedVariables false
set_option linter.unusedSectionVars false
set_option maxRecDepth 4000
open Go.RowKit
variable {P : Program} {N : Nat}
def mpOf : V -> Option (Bool × List (List T))
 | .one (.t (.mp ag rows)) => some (ag, rows)
 | .one (.rn (.mp ag rows)) => some (ag, rows)
 | _ => none
def tupX : V -> Option (Bool × List C)
 | .agg cs => some (true, cs)
 | .one c => some (false, [c])
 | _ => none
theorem zzq {σ : St} {g : Gh} {w : World} {x : V} {y : Bool × List C} {v : Value} (h : tupX x = some y) (hv : VR σ g w x v) : CRx σ g w y v := by
 cases x with
 | agg cs => obtain rfl := Option.some.inj h; obtain ⟨a, h1, h2⟩ := hv; exact ⟨a, h1, h2⟩
 | one c => obtain rfl := Option.some.inj h; exact ⟨c, rfl, hv⟩
 | tup _ => cases h
theorem qie {σ : St} {g : Gh} {w : World} {x : V} {ag : Bool} {rows : List (List T)} {v : Value} (h : mpOf x = some (ag, rows)) (hv : VR σ g w x v) : zao w (Fix σ g w) (.mp ag rows) v := by
 unfold mpOf at h
 split at h
 ·cases h; exact hv
 ·cases h; exact zao.keep (fun _ _ => rfl) (fun b hb => hb.1) _ _ hv
 ·cases h
def lk2Z (P : Program) (et : TypeId) : Option V := ((P.info? et).bind (·.zero)).bind fun z => (tupX (ofV P et z)).map fun y => .tup [y, (false, [.t (.bool false)])]
def lk2 (P : Program) (σ : St) (mt : TypeId) (x ix : Operand) : Option V := match mpOf (σ.get P 0 x), σ.get P 0 ix, mapT P mt with
 | some (ag, rows), .one (.t k), some (d, et) => if qb8 d k = true then (zd0 k rows).bind fun r => match r with
  | some vs => (rowV ag vs).bind fun v => (tupX v).map fun y => .tup [y, (false, [.t (.bool true)])]
  | none => lk2Z P et
  else none
 | _, _, _ => none
theorem zso {o : Oper} {σ : St} {mt : TypeId} {x ix : Operand} {v : V} (ho : o.op = .lookup mt x ix true) (h : lk2 P σ mt x ix = some v) : zaf P o σ (σ.put o.dst v) :=
 zaf.value fun n0 N g a w hR => by
  unfold lk2 at h
  split at h
  ·rename_i ag rows k d et hm hi ht
   split at h
   ·rename_i hk
    obtain ⟨r, hf, h⟩ := Option.bind_eq_some_iff.1 h
    obtain ⟨kt, t1, t2⟩ := qah ht
    have h1 := qie hm (hR.get P 0 x)
    have h2 := hR.get P 0 ix
    rw [hi] at h2
    have h2 : zao w (Fix σ g w) k (a.eval ix) := h2
    unfold zao at h1
    obtain ⟨b, es, clk, e1, hA, hb, he⟩ := h1
    cases r with
    | some vs =>
     obtain ⟨y, hv, h⟩ := Option.bind_eq_some_iff.1 h
     obtain ⟨z, hz, rfl⟩ := Option.map_eq_some_iff.1 h
     obtain ⟨j, u, us, f1, f2, f3⟩ := zet hk h2 ag rows es.toList 0 (some vs) he hf
     have hvr : VR σ g w y u := by
      unfold rowV at hv
      by_cases hag : ag = true
      ·rw [if_pos hag] at hv f2
       cases hv
       exact ⟨us, f2, qi7 f3⟩
      ·rw [if_neg hag] at hv f2
       subst f2
       rcases vs with _ | ⟨t, _ | ⟨t', vs⟩⟩
       ·cases hv
       ·cases hv
        unfold zae at f3
        obtain ⟨v', vs', e, h3, _⟩ := f3
        cases e
        exact h3
       ·cases hv
     refine ⟨.tuple #[u, .bool true], ?_, [u, .bool true], rfl, u, [.bool true], rfl, zzq hz hvr, .bool true, [], rfl, ⟨.t (.bool true), rfl, rfl⟩, rfl⟩
     unfold execOp
     simp only [ho]
     simp [Instr.lookup, run_underlying t1, e1, Go.MapKept.run_getObj_map hb, Go.MapKept.run_checkKey t2 (znl hk h2), Go.MapKept.run_findKey t2 f1, Result.andThen]
    | none =>
     obtain ⟨zv, hz0, h⟩ := Option.bind_eq_some_iff.1 h
     obtain ⟨y, hy, rfl⟩ := Option.map_eq_some_iff.1 h
     obtain ⟨i, hi1, hi2⟩ := Option.bind_eq_some_iff.1 hz0
     have f1 := zet hk h2 ag rows es.toList 0 none he hf
     have hvr : VR σ g w (ofV P et zv) zv := qja P σ g w et zv
     refine ⟨.tuple #[zv, .bool false], ?_, [zv, .bool false], rfl, zv, [.bool false], rfl, zzq hy hvr, .bool false, [], rfl, ⟨.t (.bool false), rfl, rfl⟩, rfl⟩
     unfold execOp
     simp only [ho]
     simp [Instr.lookup, run_underlying t1, e1, Go.MapKept.run_getObj_map hb, Go.MapKept.run_checkKey t2 (znl hk h2), Go.MapKept.run_findKey t2 f1, Result.andThen, zeroValue, typeInfo, hi1, hi2]
   ·cases h
  ·cases h
section
variable {ks : List Fr} {Q : Exit -> St -> Prop} {σ : St} {ops : Array Oper} {os : List Oper} {L : List (List Ky × List Ky)} {ty : TypeId} {ps : String} {af : Array Edge} {dst : Option Nat} {mt : TypeId} {x ix : Operand} {v : V}
theorem zyq (h : lk2 P σ mt x ix = some v) (k : exo P ops os ks Q (σ.put dst v)) : exo P ops (⟨dst, .lookup mt x ix true, ty, ps, af, none⟩ :: os) ks Q σ := zcl rfl rfl (zso rfl h) k
end
attribute [go_sem] mpOf tupX lk2 onM updM mvC mvCs mvV Option.bind_some Option.map_some
end Go.Proofs.YtemnhgmgeijkcaaGreat
