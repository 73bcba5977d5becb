/-
  The walk over plain data, and contracts of functions of the program and of its laws.
  Conditions: those that each theorem names.
-/
import Derived.Test.YtemnhgmgeijkcaaGreatQ5
import Derived.Test.YtemnhgmgeijkcaaGreatQ4
import Derived.RangeFuncNested
import Derived.RangeFuncBound
import Derived.RangeFuncCalls
import Derived.TacticsInMore
import Derived.LoopNIn
import Derived.LoopIn
namespace Go.Proofs.YtemnhgmgeijkcaaGreat
set_option linter.unusedSimpArgs false
set_option linter.unusedVariables false
set_option linter.unusedSectionVars false
set_option maxRecDepth 4000
open Go.RowKit
theorem qb6 : ∀ a : Tm, a.wt <= 1099511627776 -> ∀ ys : List Str, ys.length + (voS a).length <= 1073741824 -> GC Tryz.prog 241 [(true, .one (zb0 ys)), (false, tmD a)] [.one (zb0 (zbd ys (voS a)))] :=
 za7 fun n xs ih hw ys hs => zx9 (.mk n xs) (fun x hx ys hs => ih x hx (Nat.le_trans (zow (a := .mk n xs) hx) hw) ys hs) ys hs (by have := Tm.wt_eq (.mk n xs); omega)
theorem zkn (a : Tm) (hw : a.wt <= 1099511627776) (hs : (voS a).length <= 1073741824) : FC Tryz.prog 178 [tmD a] [.one (zb0 (zbd [] (voS a)))] := by
 have HC := qb6 a hw [] (by simpa using hs)
 simp only [tmD, zaa] at HC ⊢
 refine zcp Tryz.call178 Tryz.func178 rfl (by kernel_rfl) (zat (by kernel_rfl)) ?_
 simp -implicitDefEqProofs only [go_sem, Tryz.results178]
 refine za9 (by simp -implicitDefEqProofs only [go_sem]) ?_
 simp -implicitDefEqProofs only [go_sem]
 refine zcb [] [3, 4] [] (HC) (by simp -implicitDefEqProofs only [go_sem]) (by simp -implicitDefEqProofs only [go_sem]) (by simp -implicitDefEqProofs only [go_sem]) (by simp -implicitDefEqProofs only [go_sem]) ?_
 simp -implicitDefEqProofs only [go_sem]
theorem zr1 {s : Str} (h : zav s = true) : zi3 (s.getD 0 0) = true /\ 0 < s.length := by
 unfold zav at h
 rw [Bool.and_eq_true] at h
 cases s with
 | nil => exact absurd h.2 (by decide)
 | cons b s =>
  have := zqs (s := b :: s) (by simp)
  rw [h.1] at this
  have := (Bool.and_eq_true _ _).mp this.symm
  exact ⟨this.1, by simp⟩
theorem up_low {b : UInt8} (h : zew b = true) : zi3 b = false := by
 unfold zew zi3 at *
 simp only [Bool.and_eq_true, decide_eq_true_eq, Bool.and_eq_false_iff, decide_eq_false_iff_not] at *
 omega
theorem zmz {s : Str} (h : zch s = true) : zi3 (s.getD 0 0) = false /\ 0 < s.length := by
 unfold zch at h
 simp only [Bool.and_eq_true] at h
 cases s with
 | nil => exact absurd h.1.2 (by decide)
 | cons b s =>
  have := zl8 (s := b :: s) (by simp)
  rw [h.1.1] at this
  have := (Bool.and_eq_true _ _).mp this.symm
  exact ⟨up_low this.1, by simp⟩
theorem zkg : ∀ a : Tm, a.names = true -> voI a = voS a /\ a.ne = true := za7 fun n xs ih h => by
 rw [Tm.names_eq] at h
 rw [zqo, zh9, Tm.ne_eq']
 change (if zav n = true then decide (xs.length = 0) else zch n && decide (xs.length <= 4) && xs.all Tm.names) = true at h
 change (if (decide (xs.length = 0) && zi3 (n.getD 0 0)) = true then [n] else (xs.map voI).flatten) = (if zav n = true then [n] else (xs.map voS).flatten) /\ ((!decide (xs.length = 0) || decide (0 < n.length)) && xs.all Tm.ne) = true
 change ∀ x ∈ xs, _ at ih
 by_cases hv : zav n = true
 ·rw [if_pos hv] at h ⊢
  obtain ⟨h1, h2⟩ := zr1 hv
  have h : xs.length = 0 := of_decide_eq_true h
  have hx : xs = [] := List.length_eq_zero_iff.1 h
  subst hx
  rw [h1]
  exact ⟨rfl, by simp [h2]⟩
 ·rw [if_neg hv] at h ⊢
  simp only [Bool.and_eq_true] at h
  obtain ⟨h1, h2⟩ := zmz h.1.1
  rw [h1, Bool.and_false, if_neg (by simp)]
  have hI := fun x hx => ih x hx (List.all_eq_true.1 h.2 x hx)
  refine ⟨by rw [List.map_congr_left fun x hx => (hI x hx).1], ?_⟩
  rw [Bool.and_eq_true]
  exact ⟨by simp [h2], List.all_eq_true.2 fun x hx => (hI x hx).2⟩
theorem qho {a : Tm} (h : a.atomOk = true) : voI a = voS a /\ a.ne = true := by
 unfold Tm.atomOk at h
 split at h
 ·rename_i he
  have he : a.name = [61] := by simpa using he
  simp only [Bool.and_eq_true, decide_eq_true_eq] at h
  rw [zqo, zh9, Tm.ne_eq', he]
  have hI := fun x hx => zkg x (List.all_eq_true.1 h.2 x hx)
  rw [show zi3 (([61] : Str).getD 0 0) = false by decide, show zav [61] = false by decide, Bool.and_false, if_neg (by simp), if_neg (by simp)]
  refine ⟨by rw [List.map_congr_left fun x hx => (hI x hx).1], ?_⟩
  rw [Bool.and_eq_true]
  exact ⟨by simp, List.all_eq_true.2 fun x hx => (hI x hx).2⟩
 ·simp only [Bool.and_eq_true] at h
  have := h.2
  unfold Tm.good at this
  rw [Bool.and_eq_true] at this
  exact zkg a this.2
theorem ziq {f : Fm} (h : f.here = true) (h3 : f.op = 3) : f.atom.atomOk = true /\ f.parts = [] := by
 unfold Fm.here at h
 rw [h3] at h
 simp only [show ((3 : Int) == 1 || (3 : Int) == 2) = false by decide, show ((3 : Int) == 3) = true by decide, if_true, Bool.false_eq_true, if_false, Bool.and_eq_true, decide_eq_true_eq, List.length_eq_zero_iff] at h
 exact ⟨h.1.2, h.1.1⟩
def vf : Fm -> List Str -> List Str := Fm.fold fun o a v _ rs b => if (o == 3) = true then (zbd [] (voS a)).filter (fun s => !b.contains s) else (rs.map fun r => r (if isQ o = true then b ++ [v] else b)).flatten
theorem qiw (f : Fm) (b : List Str) : vf f b = if (f.op == 3) = true then (zbd [] (voS f.atom)).filter (fun s => !b.contains s) else (f.parts.map fun x => vf x (if isQ f.op = true then b ++ [f.var] else b)).flatten := by
 unfold vf
 rw [Fm.fold_eq]
 simp only [List.map_map]
 rfl
theorem zkh : ∀ a : Tm, (voS a).length <= 1 + a.wt := za7 fun n xs ih => by
 rw [zh9, Tm.wt_eq]
 change (if zav n = true then [n] else (xs.map voS).flatten).length <= 1 + (n.length + xs.length + (xs.map Tm.wt).sum)
 split
 ·simp
 ·have : ((xs.map voS).flatten).length <= xs.length + (xs.map Tm.wt).sum := by
   revert ih
   induction xs with
   | nil => simp
   | cons x xs ih2 =>
    intro ih
    have h1 := ih x (by simp)
    have h2 := ih2 fun y hy => ih y (by simp [hy])
    simp only [List.map_cons, List.flatten_cons, List.length_append, List.sum_cons, List.length_cons]
    omega
  omega
theorem qfd : ∀ (f : Fm) (b : List Str), (vf f b).length <= f.nodes + f.wt := za6 fun o a v ps ih b => by
 rw [qiw, Fm.nodes_eq, Fm.wt_eq]
 change (if (o == 3) = true then (zbd [] (voS a)).filter (fun s => !b.contains s) else (ps.map fun x => vf x (if isQ o = true then b ++ [v] else b)).flatten).length <= 1 + (ps.map Fm.nodes).sum + (a.wt + v.length + ps.length + (ps.map Fm.wt).sum)
 split
 ·have h1 := List.length_filter_le (fun s => !b.contains s) (zbd [] (voS a))
  have h2 := zcy (voS a) []
  have h3 := zkh a
  simp only [List.length_nil] at h2
  omega
 ·have : ∀ b, ((ps.map fun x => vf x b).flatten).length <= (ps.map Fm.nodes).sum + (ps.map Fm.wt).sum := fun b => by
   revert ih
   induction ps with
   | nil => simp
   | cons x xs ih2 =>
    intro ih
    have h1 := ih x (by simp) b
    have h2 := ih2 fun y hy => ih y (by simp [hy])
    simp only [List.map_cons, List.flatten_cons, List.length_append, List.sum_cons]
    omega
  have := this (if isQ o = true then b ++ [v] else b)
  omega
def zfd (b l : List Str) (s : Str) : List Str := if (!b.contains s && !l.contains s) = true then l ++ [s] else l
theorem zg2 (b : List Str) : ∀ (ss l : List Str), ss.foldl (zfd b) l = zbv l (ss.filter fun s => !b.contains s)
 | [], l => rfl
 | s :: ss, l => by
  rw [List.foldl_cons, zg2 b ss, List.filter_cons]
  unfold zfd
  by_cases h : b.contains s = true
  ·rw [h]; simp
  ·have h : b.contains s = false := by simpa using h
   rw [h, if_pos (show (!false) = true from rfl)]
   show _ = zbv (zj3 l s) _
   congr 1
   unfold zj3
   cases l.contains s <;> rfl
theorem zzz {b l : List Str} {s : Str} (h : (!b.contains s) = true) (h2 : (!l.contains s) = true) : zfd b l s = l ++ [s] := by unfold zfd; rw [h, h2]; rfl
theorem qbx {b l : List Str} {s : Str} (h2 : (!l.contains s) = false) : zfd b l s = l := by unfold zfd; rw [h2, Bool.and_false]; rfl
theorem qfy {b l : List Str} {s : Str} (h : (!b.contains s) = false) : zfd b l s = l := by unfold zfd; rw [h, Bool.false_and]; rfl
theorem zwp (b l : List Str) (s : Str) : (zfd b l s).length <= l.length + 1 := by unfold zfd; split <;> simp
theorem zj1 (b : List Str) : ∀ (ss l : List Str), (ss.foldl (zfd b) l).length <= l.length + ss.length
 | [], l => by simp
 | s :: ss, l => by have := zj1 b ss (zfd b l s); have := zwp b l s; simp only [List.foldl_cons, List.length_cons] at *; omega
theorem zer {α β : Type} (g : β -> α -> β) (xs : List α) (z : β) (k : Nat) (h : k < xs.length) : (xs.take (k + 1)).foldl g z = g ((xs.take k).foldl g z) xs[k] := by
 rw [List.take_succ_eq_append_getElem h, List.foldl_append]; rfl
set_option maxHeartbeats 2000000 in
theorem zwi (f : Fm) (hf : f.forms = true) (hw : f.wt <= 1048576) (H : ∀ x ∈ f.parts, ∀ ys b : List Str, ys.length + (vf x b).length <= 1073741824 -> b.length + x.nodes <= 1073741824 -> GC Tryz.prog 183 [(true, .one (zb0 ys)), (false, fmD x), (false, .one (zb0 b))] [.one (zb0 (zbv ys (vf x b)))])
  (ys b : List Str) (hs : ys.length + (vf f b).length <= 1073741824) (hb : b.length + f.nodes <= 1073741824) : GC Tryz.prog 183 [(true, .one (zb0 ys)), (false, fmD f), (false, .one (zb0 b))] [.one (zb0 (zbv ys (vf f b)))] := by
 have hv := qiw f b
 have hN := f.nodes_eq
 have hW := f.wt_eq
 rw [Fm.forms_eq, Bool.and_eq_true] at hf
 simp only [fmD, zab]
 refine zjq Tryz.call183 Tryz.func183 rfl (by kernel_rfl) (by simp only [List.length_cons, List.length_nil, Tryz.ntmps183]; omega) (by simp [zb6, T.isPin]) ?_
 simp -implicitDefEqProofs only [go_sem, Tryz.results183]
 by_cases h3 : f.op = 3
 ·obtain ⟨ha, hp⟩ := ziq hf.1 h3
  obtain ⟨ev, ene⟩ := qho ha
  have e3 : (f.op == 3) = true := by simp [h3]
  rw [if_pos e3] at hv
  have hvl := zkh f.atom
  have HV := zp1 f.atom ene (by omega) (by rw [ev]; omega)
  rw [ev] at HV
  have hPl := zcy (voS f.atom) []
  generalize zbd [] (voS f.atom) = V at hv HV hPl
  rw [hv, <- zg2 b V ys]
  simp only [tmD, zaa] at HV
  simp -implicitDefEqProofs only [go_sem, e3]
  refine zjl (HV) (by simp -implicitDefEqProofs only [go_sem]) ?_
  simp -implicitDefEqProofs only [go_sem]
  refine zae (fun k : Nat => hd [(0, .one (.ow 0 0)), (2, .one (.rn (zb0 b))), (16, .one (.rn (zb0 V))), (17, vI V.length), (18, vI k)] [] [(0, ⟨true, 1, ((V.take k).foldl (zfd b) ys).map fun s => [.str s], 0, true⟩)]) (fun k => k <= V.length) (fun k => V.length - k) 0 (zac ?_) (Nat.zero_le _) ?_
  ·simp -implicitDefEqProofs only [go_sem]
   rfl
  ·intro k hk
   by_cases hlt : k < V.length
   ·have hL := zj1 b (V.take k) ys
    rw [List.length_take] at hL
    have hnx := zer (zfd b) V ys k hlt
    simp only [List.length_nil] at hPl
    simp -implicitDefEqProofs only [go_sem, zag, hlt]
    refine callF (zc8 b V[k]) (by simp -implicitDefEqProofs only [go_sem]) ?_
    simp -implicitDefEqProofs only [go_sem]
    refine ⟨fun h => ?_, fun h => ?_⟩
    ·refine callF (zc8 ((V.take k).foldl (zfd b) ys) V[k]) (by simp -implicitDefEqProofs only [go_sem]) ?_
     simp -implicitDefEqProofs only [go_sem]
     have hy2 : ((V.take k).foldl (zfd b) ys).length <= 4294967295 := by omega
     refine ⟨fun h2 => ?_, fun h2 => ?_⟩
     ·refine za9 (by simp -implicitDefEqProofs only [go_sem]) ?_
      simp -implicitDefEqProofs only [go_sem]
      refine apD true (by simp -implicitDefEqProofs only [go_sem, hy2, ne_eq, List.length_map]) ?_
      simp -implicitDefEqProofs only [go_sem, hy2, ne_eq, List.length_map]
      refine ⟨k + 1, hlt, by omega, zac ?_⟩
      simp -implicitDefEqProofs only [go_sem]
      rw [zao (by omega), hnx, zzz h h2]
      exact ⟨rfl, by simp⟩
     ·refine ⟨k + 1, hlt, by omega, zac ?_⟩
      simp -implicitDefEqProofs only [go_sem]
      rw [zao (by omega), hnx, qbx h2]
      exact ⟨rfl, rfl⟩
    ·refine ⟨k + 1, hlt, by omega, zac ?_⟩
     simp -implicitDefEqProofs only [go_sem]
     rw [zao (by omega), hnx, qfy h]
     exact ⟨rfl, rfl⟩
   ·simp -implicitDefEqProofs only [go_sem, hlt]
    exact Or.inl (by rw [List.take_of_length_le (by omega)])
 ·have e3 : (f.op == 3) = false := by simp [h3]
  rw [e3, if_neg (by simp)] at hv
  simp -implicitDefEqProofs only [go_sem, e3]
  refine callF (zaj f.op) (by simp -implicitDefEqProofs only [go_sem]) ?_
  simp -implicitDefEqProofs only [go_sem]
  refine ⟨fun h => ?_, fun h => ?_⟩
  ·rw [if_pos h] at hv
   rw [hv] at hs ⊢
   have hb1 : b.length <= 4294967295 := by omega
   refine drawn (by kernel_rfl) ?_
   simp -implicitDefEqProofs only [go_sem]
   refine zaz (zkb b (by omega)) (by simp -implicitDefEqProofs only [go_sem]) ?_
   simp -implicitDefEqProofs only [go_sem]
   refine zbl (by simp -implicitDefEqProofs only [go_sem]) ?_
   simp -implicitDefEqProofs only [go_sem]
   refine zh3 true (by simp -implicitDefEqProofs only [go_sem, hb1, ne_eq, List.length_map]) ?_
   simp -implicitDefEqProofs only [go_sem, hb1, ne_eq, List.length_map]
   refine ⟨by kernel_rfl, ?_⟩
   refine zae (fun k : Nat => hd [(0, .one (.ow 0 0)), (2, .one (.rn (zb0 (b ++ [f.var])))), (48, .one (.rn (fmS f.parts))), (49, vI f.parts.length), (50, vI k)] [] [(0, ⟨true, 1, (zbv ys ((f.parts.take k).map fun x => vf x ((b ++ [f.var]))).flatten).map fun s => [.str s], 0, true⟩)]) (fun k => k <= f.parts.length) (fun k => f.parts.length - k) 0 (zac ?_) (Nat.zero_le _) ?_
   ·simp -implicitDefEqProofs only [go_sem]
    exact ⟨by simp, rfl⟩
   ·intro k hk
    by_cases hlt : k < f.parts.length
    ·have hq := zbp (fun x => vf x ((b ++ [f.var]))) f.parts k hlt
     have hL := zdc ((f.parts.take k).map fun x => vf x ((b ++ [f.var]))).flatten ys
     have hnx := zbe Fm.nodes f.parts _ (List.getElem_mem hlt)
     have HC := H f.parts[k] (List.getElem_mem hlt) (zbv ys ((f.parts.take k).map fun x => vf x ((b ++ [f.var]))).flatten) ((b ++ [f.var])) (by omega) (by simp only [List.length_append, List.length_cons, List.length_nil]; omega)
     rw [<- zfs, <- zci (fun x => vf x ((b ++ [f.var]))) f.parts k hlt] at HC
     simp only [fmD, zab f.parts[k]] at HC
     simp -implicitDefEqProofs only [go_sem, zag, hlt, zab f.parts[k]]
     refine zcb [2, 48, 49, 50] [54, 55, 56] [] (HC) (by simp -implicitDefEqProofs only [go_sem]) (by simp -implicitDefEqProofs only [go_sem]) (by simp -implicitDefEqProofs only [go_sem]) (by simp -implicitDefEqProofs only [go_sem]) ?_
     simp -implicitDefEqProofs only [go_sem]
     refine ⟨k + 1, hlt, by omega, zcw 0 1824 ?_⟩
     simp -implicitDefEqProofs only [go_sem]
     rw [zao (by omega)]
    ·simp -implicitDefEqProofs only [go_sem, hlt]
     exact Or.inl (by rw [List.take_of_length_le (by omega)])
  ·rw [h, if_neg (by simp)] at hv
   rw [hv] at hs ⊢
   refine zae (fun k : Nat => hd [(0, .one (.ow 0 0)), (2, .one (.rn (zb0 b))), (48, .one (.rn (fmS f.parts))), (49, vI f.parts.length), (50, vI k)] [] [(0, ⟨true, 1, (zbv ys ((f.parts.take k).map fun x => vf x (b)).flatten).map fun s => [.str s], 0, true⟩)]) (fun k => k <= f.parts.length) (fun k => f.parts.length - k) 0 (zac ?_) (Nat.zero_le _) ?_
   ·simp -implicitDefEqProofs only [go_sem]
    rfl
   ·intro k hk
    by_cases hlt : k < f.parts.length
    ·have hq := zbp (fun x => vf x (b)) f.parts k hlt
     have hL := zdc ((f.parts.take k).map fun x => vf x (b)).flatten ys
     have hnx := zbe Fm.nodes f.parts _ (List.getElem_mem hlt)
     have HC := H f.parts[k] (List.getElem_mem hlt) (zbv ys ((f.parts.take k).map fun x => vf x (b)).flatten) (b) (by omega) (by omega)
     rw [<- zfs, <- zci (fun x => vf x (b)) f.parts k hlt] at HC
     simp only [fmD, zab f.parts[k]] at HC
     simp -implicitDefEqProofs only [go_sem, zag, hlt, zab f.parts[k]]
     refine zcb [2, 48, 49, 50] [54, 55, 56] [] (HC) (by simp -implicitDefEqProofs only [go_sem]) (by simp -implicitDefEqProofs only [go_sem]) (by simp -implicitDefEqProofs only [go_sem]) (by simp -implicitDefEqProofs only [go_sem]) ?_
     simp -implicitDefEqProofs only [go_sem]
     refine ⟨k + 1, hlt, by omega, zcw 0 1824 ?_⟩
     simp -implicitDefEqProofs only [go_sem]
     rw [zao (by omega)]
    ·simp -implicitDefEqProofs only [go_sem, hlt]
     exact Or.inl (by rw [List.take_of_length_le (by omega)])
theorem qcb : ∀ f : Fm, f.forms = true -> f.wt <= 1048576 -> ∀ ys b : List Str, ys.length + (vf f b).length <= 1073741824 -> b.length + f.nodes <= 1073741824 -> GC Tryz.prog 183 [(true, .one (zb0 ys)), (false, fmD f), (false, .one (zb0 b))] [.one (zb0 (zbv ys (vf f b)))] :=
 za6 fun o a v ps ih hf hw ys b hs hb => zwi (.mk o a v ps) hf hw (fun x hx ys b hs hb => ih x hx (by rw [Fm.forms_eq, Bool.and_eq_true] at hf; exact List.all_eq_true.1 hf.2 x hx) (Nat.le_trans (zbm (a := .mk o a v ps) hx) hw) ys b hs hb) ys b hs hb
theorem free_c (f : Fm) (hf : f.forms = true) (hw : f.wt <= 1048576) : FC Tryz.prog 117 [fmD f] [.one (zb0 (zbd [] (vf f [])))] := by
 have h1 := qfd f []
 have h2 := zb4 f
 have HC := qcb f hf hw [] [] (by simp only [List.length_nil]; omega) (by simp only [List.length_nil]; omega)
 have HS := zh0 (zbv [] (vf f [])) (by have := zdc (vf f []) []; simp only [List.length_nil] at this; omega)
 rw [zlj] at HS
 simp only [fmD, zab] at HC ⊢
 refine zcp Tryz.call117 Tryz.func117 rfl (by kernel_rfl) (zat (by kernel_rfl)) ?_
 simp -implicitDefEqProofs only [go_sem, Tryz.results117]
 refine za9 (by simp -implicitDefEqProofs only [go_sem]) ?_
 simp -implicitDefEqProofs only [go_sem]
 refine zcb [] [4, 5] [] (HC) (by simp -implicitDefEqProofs only [go_sem]) (by simp -implicitDefEqProofs only [go_sem]) (by simp -implicitDefEqProofs only [go_sem]) (by simp -implicitDefEqProofs only [go_sem]) ?_
 simp -implicitDefEqProofs only [go_sem]
 refine zvh (HS) (by simp -implicitDefEqProofs only [go_sem, zbq]) (by simp -implicitDefEqProofs only [go_sem, zbq]) rfl ?_
 simp -implicitDefEqProofs only [go_sem, zbq]
def zgi (b l : List Str) (s : Str) : List Str := if (!b.contains s) = true then zqz l s else l
theorem zg4 (b : List Str) : ∀ (ss l : List Str), ss.foldl (zgi b) l = zbd l (ss.filter fun s => !b.contains s)
 | [], l => rfl
 | s :: ss, l => by
  rw [List.foldl_cons, zg4 b ss, List.filter_cons]
  unfold zgi
  by_cases h : b.contains s = true
  ·rw [h]; simp
  ·have h : b.contains s = false := by simpa using h
   rw [h, if_pos (show (!false) = true from rfl), if_pos (show (!false) = true from rfl)]
   rfl
theorem zwq (b l : List Str) (s : Str) : (zgi b l s).length <= l.length + 1 := by
 unfold zgi
 split
 ·exact zq2 l s
 ·omega
theorem zje (b : List Str) : ∀ (ss l : List Str), (ss.foldl (zgi b) l).length <= l.length + ss.length
 | [], l => by simp
 | s :: ss, l => by have := zje b ss (zgi b l s); have := zwq b l s; simp only [List.foldl_cons, List.length_cons] at *; omega
theorem zwy {b l : List Str} {s : Str} (h : (!b.contains s) = true) : zgi b l s = zqz l s := if_pos h
theorem qgi {b l : List Str} {s : Str} (h : (!b.contains s) = false) : zgi b l s = l := by unfold zgi; rw [h]; rfl
set_option maxHeartbeats 2000000 in
theorem zym (f : Fm) (hf : f.forms = true) (hw : f.wt <= 1048576) (H : ∀ x ∈ f.parts, ∀ ys b : List Str, ys.length + (vf x b).length <= 1073741824 -> b.length + x.nodes <= 1073741824 -> GC Tryz.prog 226 [(true, .one (zb0 ys)), (false, fmD x), (false, .one (zb0 b))] [.one (zb0 (zbd ys (vf x b)))])
  (ys b : List Str) (hs : ys.length + (vf f b).length <= 1073741824) (hb : b.length + f.nodes <= 1073741824) : GC Tryz.prog 226 [(true, .one (zb0 ys)), (false, fmD f), (false, .one (zb0 b))] [.one (zb0 (zbd ys (vf f b)))] := by
 have hv := qiw f b
 have hN := f.nodes_eq
 have hW := f.wt_eq
 rw [Fm.forms_eq, Bool.and_eq_true] at hf
 simp only [fmD, zab]
 refine zjq Tryz.call226 Tryz.func226 rfl (by kernel_rfl) (by simp only [List.length_cons, List.length_nil, Tryz.ntmps226]; omega) (by simp [zb6, T.isPin]) ?_
 simp -implicitDefEqProofs only [go_sem, Tryz.results226]
 by_cases h3 : f.op = 3
 ·obtain ⟨ha, hp⟩ := ziq hf.1 h3
  have e3 : (f.op == 3) = true := by simp [h3]
  have e8 : (f.op == 8) = false := by simp [h3]
  have e9 : (f.op == 9) = false := by simp [h3]
  rw [if_pos e3] at hv
  have hvl := zkh f.atom
  have HV := zkn f.atom (by omega) (by omega)
  have hPl := zcy (voS f.atom) []
  generalize zbd [] (voS f.atom) = V at hv HV hPl
  simp only [List.length_nil] at hPl
  rw [hv, <- zg4 b V ys]
  simp only [tmD, zaa] at HV
  simp -implicitDefEqProofs only [go_sem, e3]
  refine zjl (HV) (by simp -implicitDefEqProofs only [go_sem]) ?_
  simp -implicitDefEqProofs only [go_sem]
  refine zae (fun k : Nat => hd [(0, .one (.ow 0 0)), (2, .one (.rn (zb0 b))), (4, .one (.bx 4 0)), (7, .one (.rn (zb0 V))), (8, vI k)] [(4, [.t (.int .i64 f.op), .t (.str f.atom.name), .rn (tmS f.atom.args), .t (.str f.var), .rn (fmS f.parts)])] [(0, ⟨true, 1, ((V.take k).foldl (zgi b) ys).map fun s => [.str s], 0, true⟩)]) (fun k => k <= V.length) (fun k => V.length - k) 0 (zac ?_) (Nat.zero_le _) ?_
  ·simp -implicitDefEqProofs only [go_sem]
   rfl
  ·intro k hk
   by_cases hlt : k < V.length
   ·have hL := zje b (V.take k) ys
    rw [List.length_take] at hL
    have hnx := zer (zgi b) V ys k hlt
    simp -implicitDefEqProofs only [go_sem, zag, hlt]
    refine callF (zrr b V[k]) (by simp -implicitDefEqProofs only [go_sem]) ?_
    simp -implicitDefEqProofs only [go_sem]
    refine ⟨fun h => ?_, fun h => ?_⟩
    ·simp -implicitDefEqProofs only [go_sem, zag, hlt]
     refine zcb [2, 4, 7, 8] [29, 33] [] (zwg ((V.take k).foldl (zgi b) ys) V[k] (by omega)) (by simp -implicitDefEqProofs only [go_sem]) (by simp -implicitDefEqProofs only [go_sem]) (by simp -implicitDefEqProofs only [go_sem]) (by simp -implicitDefEqProofs only [go_sem]) ?_
     simp -implicitDefEqProofs only [go_sem]
     refine ⟨k + 1, hlt, by omega, zcw 0 1088 ?_⟩
     simp -implicitDefEqProofs only [go_sem]
     rw [zao (by omega), hnx, zwy h]
     exact ⟨rfl, rfl⟩
    ·refine ⟨k + 1, hlt, by omega, zac ?_⟩
     simp -implicitDefEqProofs only [go_sem]
     rw [zao (by omega), hnx, qgi h]
     exact ⟨rfl, rfl⟩
   ·rw [List.take_of_length_le (by omega)]
    have hr : ∃ R, V.foldl (zgi b) ys = R := ⟨_, rfl⟩
    obtain ⟨R, hR⟩ := hr
    rw [hR]
    simp -implicitDefEqProofs only [go_sem, hlt, e8, e9]
    refine zae (fun k : Nat => hd [(0, .one (.ow 0 0)), (2, .one (.rn (zb0 b))), (4, .one (.bx 4 0)), (9, vI k)] [(4, [.t (.int .i64 f.op), .t (.str f.atom.name), .rn (tmS f.atom.args), .t (.str f.var), .rn (fmS f.parts)])] [(0, ⟨true, 1, R.map fun s => [.str s], 0, true⟩)]) (fun k => k = 0) (fun k => 0) 0 (zac ?_) rfl ?_
    ·simp -implicitDefEqProofs only [go_sem]
    ·rintro k rfl
     have hp0 : f.parts.length = 0 := by rw [hp]; rfl
     simp -implicitDefEqProofs only [go_sem, hp0]
 ·have e3 : (f.op == 3) = false := by simp [h3]
  rw [e3, if_neg (by simp)] at hv
  by_cases hq8 : isQ f.op = true
  ·rw [if_pos hq8] at hv
   rw [hv] at hs ⊢
   have hb1 : b.length <= 4294967296 := by omega
   have hb2 : b.length <= 4294967295 := by omega
   have key : (f.op == 8) = true \/ ((f.op == 8) = false /\ (f.op == 9) = true) := by
    unfold isQ at hq8
    cases h8 : f.op == 8
    ·rw [h8, Bool.false_or] at hq8; exact Or.inr ⟨rfl, hq8⟩
    ·exact Or.inl rfl
   rcases key with e8 | ⟨e8, e9⟩
   ·simp -implicitDefEqProofs only [go_sem, e3, e8]
    refine drawn (by kernel_rfl) ?_
    simp -implicitDefEqProofs only [go_sem]
    refine zbl (by simp -implicitDefEqProofs only [go_sem]) ?_
    simp -implicitDefEqProofs only [go_sem]
    refine zh3 true (by simp -implicitDefEqProofs only [go_sem, hb1, zbq, ne_eq, List.length_map, Nat.zero_add]) ?_
    simp -implicitDefEqProofs only [go_sem, hb1, zbq, ne_eq, List.length_map, Nat.zero_add]
    refine zbl (by simp -implicitDefEqProofs only [go_sem]) ?_
    simp -implicitDefEqProofs only [go_sem]
    refine zh3 true (by simp -implicitDefEqProofs only [go_sem, hb2, ne_eq, List.length_map]) ?_
    simp -implicitDefEqProofs only [go_sem, hb2, ne_eq, List.length_map]
    refine ⟨by kernel_rfl, ?_⟩
    refine zae (fun k : Nat => hd [(0, .one (.ow 0 0)), (2, .one (.rn (zb0 (b ++ [f.var])))), (4, .one (.bx 4 0)), (9, vI k)] [(4, [.t (.int .i64 f.op), .t (.str f.atom.name), .rn (tmS f.atom.args), .t (.str f.var), .rn (fmS f.parts)])] [(0, ⟨true, 1, (zbd ys ((f.parts.take k).map fun x => vf x ((b ++ [f.var]))).flatten).map fun s => [.str s], 0, true⟩)]) (fun k => k <= f.parts.length) (fun k => f.parts.length - k) 0 (zac ?_) (Nat.zero_le _) ?_
    ·simp -implicitDefEqProofs only [go_sem]
     exact ⟨by simp, rfl⟩
    ·intro k hk
     by_cases hlt : k < f.parts.length
     ·have hq := zbp (fun x => vf x ((b ++ [f.var]))) f.parts k hlt
      have hL := zcy ((f.parts.take k).map fun x => vf x ((b ++ [f.var]))).flatten ys
      have hnx := zbe Fm.nodes f.parts _ (List.getElem_mem hlt)
      have HC := H f.parts[k] (List.getElem_mem hlt) (zbd ys ((f.parts.take k).map fun x => vf x ((b ++ [f.var]))).flatten) ((b ++ [f.var])) (by omega) (by simp only [List.length_append, List.length_cons, List.length_nil]; omega)
      rw [<- zgd, <- zci (fun x => vf x ((b ++ [f.var]))) f.parts k hlt] at HC
      simp only [fmD, zab f.parts[k]] at HC
      simp -implicitDefEqProofs only [go_sem, zag, hlt, zab f.parts[k]]
      refine zcb [2, 4, 9] [57, 62, 63] [] (HC) (by simp -implicitDefEqProofs only [go_sem]) (by simp -implicitDefEqProofs only [go_sem]) (by simp -implicitDefEqProofs only [go_sem]) (by simp -implicitDefEqProofs only [go_sem]) ?_
      simp -implicitDefEqProofs only [go_sem]
      refine ⟨k + 1, hlt, by omega, zcw 0 2048 ?_⟩
      simp -implicitDefEqProofs only [go_sem]
      rw [zao (by omega)]
     ·simp -implicitDefEqProofs only [go_sem, hlt]
      exact Or.inl (by rw [List.take_of_length_le (by omega)])
   ·simp -implicitDefEqProofs only [go_sem, e3, e8, e9]
    refine drawn (by kernel_rfl) ?_
    simp -implicitDefEqProofs only [go_sem]
    refine zbl (by simp -implicitDefEqProofs only [go_sem]) ?_
    simp -implicitDefEqProofs only [go_sem]
    refine zh3 true (by simp -implicitDefEqProofs only [go_sem, hb1, zbq, ne_eq, List.length_map, Nat.zero_add]) ?_
    simp -implicitDefEqProofs only [go_sem, hb1, zbq, ne_eq, List.length_map, Nat.zero_add]
    refine zbl (by simp -implicitDefEqProofs only [go_sem]) ?_
    simp -implicitDefEqProofs only [go_sem]
    refine zh3 true (by simp -implicitDefEqProofs only [go_sem, hb2, ne_eq, List.length_map]) ?_
    simp -implicitDefEqProofs only [go_sem, hb2, ne_eq, List.length_map]
    refine ⟨by kernel_rfl, ?_⟩
    refine zae (fun k : Nat => hd [(0, .one (.ow 0 0)), (2, .one (.rn (zb0 (b ++ [f.var])))), (4, .one (.bx 4 0)), (9, vI k)] [(4, [.t (.int .i64 f.op), .t (.str f.atom.name), .rn (tmS f.atom.args), .t (.str f.var), .rn (fmS f.parts)])] [(0, ⟨true, 1, (zbd ys ((f.parts.take k).map fun x => vf x ((b ++ [f.var]))).flatten).map fun s => [.str s], 0, true⟩)]) (fun k => k <= f.parts.length) (fun k => f.parts.length - k) 0 (zac ?_) (Nat.zero_le _) ?_
    ·simp -implicitDefEqProofs only [go_sem]
     exact ⟨by simp, rfl⟩
    ·intro k hk
     by_cases hlt : k < f.parts.length
     ·have hq := zbp (fun x => vf x ((b ++ [f.var]))) f.parts k hlt
      have hL := zcy ((f.parts.take k).map fun x => vf x ((b ++ [f.var]))).flatten ys
      have hnx := zbe Fm.nodes f.parts _ (List.getElem_mem hlt)
      have HC := H f.parts[k] (List.getElem_mem hlt) (zbd ys ((f.parts.take k).map fun x => vf x ((b ++ [f.var]))).flatten) ((b ++ [f.var])) (by omega) (by simp only [List.length_append, List.length_cons, List.length_nil]; omega)
      rw [<- zgd, <- zci (fun x => vf x ((b ++ [f.var]))) f.parts k hlt] at HC
      simp only [fmD, zab f.parts[k]] at HC
      simp -implicitDefEqProofs only [go_sem, zag, hlt, zab f.parts[k]]
      refine zcb [2, 4, 9] [57, 62, 63] [] (HC) (by simp -implicitDefEqProofs only [go_sem]) (by simp -implicitDefEqProofs only [go_sem]) (by simp -implicitDefEqProofs only [go_sem]) (by simp -implicitDefEqProofs only [go_sem]) ?_
      simp -implicitDefEqProofs only [go_sem]
      refine ⟨k + 1, hlt, by omega, zcw 0 2048 ?_⟩
      simp -implicitDefEqProofs only [go_sem]
      rw [zao (by omega)]
     ·simp -implicitDefEqProofs only [go_sem, hlt]
      exact Or.inl (by rw [List.take_of_length_le (by omega)])
  ·have hq : isQ f.op = false := by simpa using hq8
   rw [hq, if_neg (by simp)] at hv
   rw [hv] at hs ⊢
   unfold isQ at hq
   rw [Bool.or_eq_false_iff] at hq
   obtain ⟨e8, e9⟩ := hq
   simp -implicitDefEqProofs only [go_sem, e3, e8, e9]
   refine zae (fun k : Nat => hd [(0, .one (.ow 0 0)), (2, .one (.rn (zb0 b))), (4, .one (.bx 4 0)), (9, vI k)] [(4, [.t (.int .i64 f.op), .t (.str f.atom.name), .rn (tmS f.atom.args), .t (.str f.var), .rn (fmS f.parts)])] [(0, ⟨true, 1, (zbd ys ((f.parts.take k).map fun x => vf x (b)).flatten).map fun s => [.str s], 0, true⟩)]) (fun k => k <= f.parts.length) (fun k => f.parts.length - k) 0 (zac ?_) (Nat.zero_le _) ?_
   ·simp -implicitDefEqProofs only [go_sem]
    rfl
   ·intro k hk
    by_cases hlt : k < f.parts.length
    ·have hq := zbp (fun x => vf x (b)) f.parts k hlt
     have hL := zcy ((f.parts.take k).map fun x => vf x (b)).flatten ys
     have hnx := zbe Fm.nodes f.parts _ (List.getElem_mem hlt)
     have HC := H f.parts[k] (List.getElem_mem hlt) (zbd ys ((f.parts.take k).map fun x => vf x (b)).flatten) (b) (by omega) (by omega)
     rw [<- zgd, <- zci (fun x => vf x (b)) f.parts k hlt] at HC
     simp only [fmD, zab f.parts[k]] at HC
     simp -implicitDefEqProofs only [go_sem, zag, hlt, zab f.parts[k]]
     refine zcb [2, 4, 9] [57, 62, 63] [] (HC) (by simp -implicitDefEqProofs only [go_sem]) (by simp -implicitDefEqProofs only [go_sem]) (by simp -implicitDefEqProofs only [go_sem]) (by simp -implicitDefEqProofs only [go_sem]) ?_
     simp -implicitDefEqProofs only [go_sem]
     refine ⟨k + 1, hlt, by omega, zcw 0 2048 ?_⟩
     simp -implicitDefEqProofs only [go_sem]
     rw [zao (by omega)]
    ·simp -implicitDefEqProofs only [go_sem, hlt]
     exact Or.inl (by rw [List.take_of_length_le (by omega)])
theorem qbv : ∀ f : Fm, f.forms = true -> f.wt <= 1048576 -> ∀ ys b : List Str, ys.length + (vf f b).length <= 1073741824 -> b.length + f.nodes <= 1073741824 -> GC Tryz.prog 226 [(true, .one (zb0 ys)), (false, fmD f), (false, .one (zb0 b))] [.one (zb0 (zbd ys (vf f b)))] :=
 za6 fun o a v ps ih hf hw ys b hs hb => zym (.mk o a v ps) hf hw (fun x hx ys b hs hb => ih x hx (by rw [Fm.forms_eq, Bool.and_eq_true] at hf; exact List.all_eq_true.1 hf.2 x hx) (Nat.le_trans (zbm (a := .mk o a v ps) hx) hw) ys b hs hb) ys b hs hb
theorem zsg (f : Fm) (hf : f.forms = true) (hw : f.wt <= 1048576) : FC Tryz.prog 159 [fmD f] [.one (zb0 (zbd [] (vf f [])))] := by
 have h1 := qfd f []
 have h2 := zb4 f
 have HC := qbv f hf hw [] [] (by simp only [List.length_nil]; omega) (by simp only [List.length_nil]; omega)
 simp only [fmD, zab] at HC ⊢
 refine zcp Tryz.call159 Tryz.func159 rfl (by kernel_rfl) (zat (by kernel_rfl)) ?_
 simp -implicitDefEqProofs only [go_sem, Tryz.results159]
 refine za9 (by simp -implicitDefEqProofs only [go_sem]) ?_
 simp -implicitDefEqProofs only [go_sem]
 refine za9 (by simp -implicitDefEqProofs only [go_sem]) ?_
 simp -implicitDefEqProofs only [go_sem]
 refine frzO 160 rfl rfl ?_
 simp -implicitDefEqProofs only [go_sem]
 refine zcb [] [3, 4, 5] [] (HC) (by simp -implicitDefEqProofs only [go_sem, zb0, List.map_nil]) (by simp -implicitDefEqProofs only [go_sem, zb0, List.map_nil]) (by simp -implicitDefEqProofs only [go_sem, zb0, List.map_nil]) (by simp -implicitDefEqProofs only [go_sem, zb0, List.map_nil]) ?_
 simp -implicitDefEqProofs only [go_sem, zb0, List.map_nil]
end Go.Proofs.YtemnhgmgeijkcaaGreat
namespace Go.Proofs.YtemnhgmgeijkcaaGreat
set_option linter.unusedSimpArgs false
set_option linter.unusedVariables false
set_option linter.unusedSectionVars false
set_option maxRecDepth 4000
open Go.RowKit
variable {P : Program}
attribute [go_sem] bxA List.flatten_cons List.flatten_nil
end Go.Proofs.YtemnhgmgeijkcaaGreat
namespace Go.Proofs.YtemnhgmgeijkcaaGreat
set_option linter.unusedSimpArgs false
set_option linter.unusedVariables false
set_option linter.unusedSectionVars false
set_option maxRecDepth 4000
open Go.RowKit
variable {P : Program}
section
variable {ks : List Fr} {Q : Exit -> St -> Prop} {σ : St} {ops : Array Oper} {os : List Oper} {L : List (List Ky × List Ky)} {ty : TypeId} {ps : String} {af : Array Edge} {d : Nat} {x : Operand} {asx : Array Operand} {ts : Array TypeId} {f : FuncId} {res : List (Bool × D)}
theorem qe1 {ds0 res0 : List D} {gR : List Ky} (h : FC P f ds0 res0) (hp : zaq (zaw (σ.get P 0 x)) fun p => p.1 = f /\ VDs σ (σ.gets P asx ts ++ p.2) ds0 /\ zgl d 0 (za2 res0) σ.ev)
  (k : exd P ops os (L ++ [(gR ++ (zau (x :: asx.toList) ++ (vsK σ (σ.gets P asx ts ++ qgr (zaw (σ.get P 0 x))) ++ eK (owL d 0 (za2 res0)))), dK (some d) ++ eK (owL d 0 (za2 res0)))]) ks Q (σ.callF d res0)) :
  zu3 P ops ⟨some d, .call ⟨.value x, asx, ts⟩, ty, ps, af, none⟩ os L gR ks Q σ := by
 obtain ⟨⟨f', cvs⟩, h1, rfl, h2, h3⟩ := zap hp
 rw [h1] at k
 exact qgb _ _ _ _ _ _ rfl (zma rfl rfl h h1 h2 h3) k
end
end Go.Proofs.YtemnhgmgeijkcaaGreat
namespace Go.Proofs.YtemnhgmgeijkcaaGreat
set_option linter.unusedSimpArgs false
set_option linter.unusedVariables false
set_option linter.unusedSectionVars false
set_option maxRecDepth 4000
open Go.RowKit
def zu2 (s t : Str) : Int := if Op.bytesLess s t = true then -1 else if (s == t) = true then 0 else 1
def bnC (p : Str × Tm) : List T := .str p.1 :: tmC p.2
def sbS (l : List (Str × Tm)) : T := .sl 3 (l.map bnC)
theorem zq5 (n : Str) (t : Tm) : bnC (n, t) = [.str n, .str t.name, .sl 2 (t.args.map tmC)] := by unfold bnC; rw [zaa]
end Go.Proofs.YtemnhgmgeijkcaaGreat
namespace Go.Proofs.YtemnhgmgeijkcaaGreat
set_option linter.unusedSimpArgs false
set_option linter.unusedVariables false
set_option linter.unusedSectionVars false
set_option maxRecDepth 4000
open Go.RowKit
def eqL {α : Type} (p : α -> α -> Bool) : List α -> List α -> Bool
 | [], [] => true
 | a :: xs, b :: ys => p a b && eqL p xs ys
 | _, _ => false
theorem zu9 {α : Type} {p : α -> α -> Bool} : ∀ {xs ys : List α}, xs.length ≠ ys.length -> eqL p xs ys = false
 | [], [], h => absurd rfl h
 | [], _ :: _, _ => rfl
 | _ :: _, [], _ => rfl
 | a :: xs, b :: ys, h => by simp only [eqL]; rw [zu9 (by simpa using h), Bool.and_false]
theorem zsp {α : Type} {p : α -> α -> Bool} : ∀ {xs ys : List α}, (∀ x ∈ xs, ∀ y, p x y = same x y) -> eqL p xs ys = same xs ys
 | [], [], _ => zfq.symm
 | [], _ :: _, _ => (zcr.2 (by simp)).symm
 | _ :: _, [], _ => (zcr.2 (by simp)).symm
 | a :: xs, b :: ys, h => by simp only [eqL]; rw [zcz, h a (by simp) b, zsp fun x hx y => h x (by simp [hx]) y]
set_option maxRecDepth 10000 in
set_option maxHeartbeats 400000 in
theorem zhx (xs ys : List Tm) (p : Tm -> Tm -> Bool) (g : FuncId) (caps : List T) (H : ∀ x ∈ xs, ∀ y ∈ ys, FC Tryz.prog g (tmD x :: tmD y :: caps.map .one) [bD (p x y)]) : FC Tryz.prog 230 [.one (tmS xs), .one (tmS ys), .one (.fn g caps)] [bD (eqL p xs ys)] := by
 refine zc0 (fun hw => ?_) Tryz.call230
 have hl : xs.length <= 9223372036854775807 := by simpa [zfj, wfT] using hw.1.1
 have hl2 : ys.length <= 9223372036854775807 := by simpa [zfj, wfT] using hw.2.1.1
 refine zah Tryz.call230 Tryz.func230 rfl (by kernel_rfl) (zat (by kernel_rfl)) ?_
 simp -implicitDefEqProofs only [go_sem, Tryz.results230]
 refine ⟨fun h => ?_, fun h => ?_⟩
 ·rw [zu9 (by rintro e; simp [e] at h)]
 ·have hlen : xs.length = ys.length := by simp at h; omega
  refine zae (fun k : Nat => hd [(1, vT (tmS ys)), (2, .one (.t (.fn g caps))), (15, vT (tmS xs)), (16, vI xs.length), (17, vI k)] [] []) (fun k => k <= xs.length /\ eqL p xs ys = eqL p (xs.drop k) (ys.drop k)) (fun k => xs.length - k) 0 (zac ?_) ?_ ?_
  ·simp -implicitDefEqProofs only [go_sem]
  ·simp
  ·intro k ⟨hk, hr⟩
   by_cases hlt : k < xs.length
   ·have hk2 : k < ys.length := by omega
    simp -implicitDefEqProofs only [go_sem, List.length_map, zag, hlt, hk2, zaa]
    refine callF (H xs[k] (List.getElem_mem hlt) ys[k] (List.getElem_mem hk2)) (by simp -implicitDefEqProofs only [go_sem, zaa]) ?_
    simp -implicitDefEqProofs only [go_sem, zaa]
    rw [List.drop_eq_getElem_cons hlt, List.drop_eq_getElem_cons hk2, eqL] at hr
    refine ⟨fun h => ?_, fun h => ?_⟩
    ·rw [hr, show p xs[k] ys[k] = false by simpa using h]; rfl
    ·rw [show p xs[k] ys[k] = true by simpa using h, Bool.true_and] at hr
     rw [zao (by omega)]
     exact ⟨k + 1, ⟨by omega, hr⟩, by omega, zac (by simp -implicitDefEqProofs only [go_sem])⟩
   ·simp -implicitDefEqProofs only [go_sem, List.length_map, hlt]
    rw [hr, List.drop_of_length_le (by omega), List.drop_of_length_le (by omega)]; rfl
end Go.Proofs.YtemnhgmgeijkcaaGreat
namespace Go.Proofs.YtemnhgmgeijkcaaGreat
set_option linter.unusedSimpArgs false
set_option linter.unusedVariables false
set_option linter.unusedSectionVars false
set_option maxRecDepth 4000
open Go.RowKit
theorem zik (a b : Tm) : same a b = (same a.name b.name && same a.args b.args) := by
 cases a; cases b
 rw [Bool.eq_iff_iff]
 simp only [Bool.and_eq_true, zcf, Tm.name, Tm.args, Tm.mk.injEq]
theorem zhe {α : Type} [BEq α] [LawfulBEq α] (a b : α) : (a == b) = same a b := by
 rw [Bool.eq_iff_iff, beq_iff_eq, zcf]
theorem zs5 (a b : Tm) (H : FC Tryz.prog 230 [.one (tmS a.args), .one (tmS b.args), .one (.fn 165 [])] [bD (same a.args b.args)]) :
  FC Tryz.prog 165 [tmD a, tmD b] [bD (same a b)] := by
 simp only [tmD, zaa]
 refine zah Tryz.call165 Tryz.func165 rfl (by kernel_rfl) (zat (by kernel_rfl)) ?_
 simp -implicitDefEqProofs only [go_sem, Tryz.results165]
 refine ⟨fun h => ?_, fun h => ?_⟩
 ·refine callF (H) (by simp -implicitDefEqProofs only [go_sem]) ?_
  simp -implicitDefEqProofs only [go_sem]
  rw [zik, <- zhe a.name, h, Bool.true_and]
 ·rw [zik, <- zhe a.name, h]; rfl
theorem zg3 : ∀ a b : Tm, FC Tryz.prog 165 [tmD a, tmD b] [bD (same a b)] :=
 za7 fun n xs ih b => zs5 (.mk n xs) b (by
  rw [show same (Tm.mk n xs).args b.args = eqL same (Tm.mk n xs).args b.args from (zsp fun _ _ _ => rfl).symm]
  exact zhx xs b.args same _ [] fun x hx y _ => ih x hx y)
theorem zw0 (a b : Tm) (H : ∀ x ∈ a.args, ∀ y, FC Tryz.prog 154 [tmD x, tmD y] [bD (same x y)]) : FC Tryz.prog 154 [tmD a, tmD b] [bD (same a b)] := by
 refine zc0 (fun hw => ?_) Tryz.call154
 simp only [tmD, zaa] at hw ⊢
 have hl : a.args.length <= 9223372036854775807 := by simp [zfj, wfT, zol] at hw; exact hw.1.2.1
 refine zah Tryz.call154 Tryz.func154 rfl (by kernel_rfl) (zat (by kernel_rfl)) ?_
 simp -implicitDefEqProofs only [go_sem, Tryz.results154]
 refine ⟨fun h1 => ?_, fun h1 => by rw [zik, <- zhe a.name, show (a.name == b.name) = false by simpa using h1]; rfl⟩
 have h1' : same a.name b.name = true := by rw [<- zhe]; simpa using h1
 refine ⟨fun h2 => ?_, fun h2 => ?_⟩
 ·rw [zik, h1', Bool.true_and, zcr.2 (by rintro e; simp [e] at h2)]
 have hlen : a.args.length = b.args.length := by simp at h2; omega
 have hs : same a b = same a.args b.args := by rw [zik, h1', Bool.true_and]
 refine zae (fun k : Nat => hd [(2, .one (.bx 2 0)), (3, .one (.bx 3 0)), (4, vB false), (5, vI k)] [(2, [.t (.str a.name), .t (tmS a.args)]), (3, [.t (.str b.name), .t (tmS b.args)])] []) (fun k => k <= a.args.length /\ same a.args b.args = same (a.args.drop k) (b.args.drop k)) (fun k => a.args.length - k) 0 (zac ?_) ?_ ?_
 ·simp -implicitDefEqProofs only [go_sem]
 ·simp
 ·intro k ⟨hk, hr⟩
  by_cases hlt : k < a.args.length
  ·have hk2 : k < b.args.length := by omega
   simp -implicitDefEqProofs only [go_sem, hlt]
   refine drawn (by kernel_rfl) ?_
   simp -implicitDefEqProofs only [go_sem, zag, hlt, hk2, zaa]
   refine zaz (H a.args[k] (List.getElem_mem hlt) b.args[k]) (by simp -implicitDefEqProofs only [go_sem, zaa]) ?_
   simp -implicitDefEqProofs only [go_sem, zaa]
   rw [List.drop_eq_getElem_cons hlt, List.drop_eq_getElem_cons hk2, zcz] at hr
   refine ⟨by kernel_rfl, fun h => ?_, fun h => ?_⟩
   ·rw [hs, hr, show same a.args[k] b.args[k] = false by simpa using h]; rfl
   ·rw [show same a.args[k] b.args[k] = true by simpa using h, Bool.true_and] at hr
    rw [zao (by omega)]
    exact ⟨k + 1, ⟨by omega, hr⟩, by omega, zac (by simp -implicitDefEqProofs only [go_sem])⟩
  ·simp -implicitDefEqProofs only [go_sem, hlt]
   rw [hs, hr, List.drop_of_length_le (by omega), List.drop_of_length_le (by omega), zfq]
theorem zr6 : ∀ a b : Tm, FC Tryz.prog 154 [tmD a, tmD b] [bD (same a b)] := za7 fun n xs ih b => zw0 (.mk n xs) b ih
end Go.Proofs.YtemnhgmgeijkcaaGreat
namespace Go.Proofs.YtemnhgmgeijkcaaGreat
set_option linter.unusedSimpArgs false
set_option linter.unusedVariables false
set_option linter.unusedSectionVars false
set_option maxRecDepth 4000
open Go.RowKit
def mkF (op : Int) (ps : List Fm) : Fm := .mk op (.mk [] []) [] ps
theorem zbn (op : Int) (ps : List Fm) : fmC (mkF op ps) = [.int .i64 op, .str [], .sl 2 [], .str [], .sl 5 (ps.map fmC)] := zab _
end Go.Proofs.YtemnhgmgeijkcaaGreat
namespace Go.Proofs.YtemnhgmgeijkcaaGreat
set_option linter.unusedSimpArgs false
set_option linter.unusedVariables false
set_option linter.unusedSectionVars false
set_option maxRecDepth 4000
open Go.RowKit
set_option maxHeartbeats 4000000 in
theorem ztl (f : Fm) (hs : f.wt <= 1099511627776) (H : ∀ x ∈ f.parts, FC Tryz.prog 182 [fmD x] [bD x.forms]) : FC Tryz.prog 182 [fmD f] [bD f.forms] := by
 have H1 : ∀ x ∈ f.parts, FC Tryz.prog 245 [fmD x] [bD (!x.forms)] := fun x hx => by
  simp only [fmD, zab]
  refine zah Tryz.call245 Tryz.func245 rfl (by kernel_rfl) (zat (by kernel_rfl)) ?_
  simp -implicitDefEqProofs only [go_sem, Tryz.results245]
  refine callF (H x hx) (by simp -implicitDefEqProofs only [go_sem, zab]) ?_
  simp -implicitDefEqProofs only [go_sem, zab]
 have hN := f.forms_eq
 obtain ⟨o, a, v, ps⟩ := f
 have ha : a.wt <= 1099511627776 := Nat.le_trans (zko (.mk o a v ps)) hs
 have e0 : ((ps.length : Int) != 0) = !decide (ps.length = 0) := zo0 _ 0
 have e1 : ((ps.length : Int) != 1) = !decide (ps.length = 1) := zo0 _ 1
 have e2 : ((ps.length : Int) != 2) = !decide (ps.length = 2) := zo0 _ 2
 simp only [Fm.parts] at H1 hN
 rcases zrp o with rfl | rfl | rfl | rfl | rfl | rfl | rfl | rfl | rfl | ⟨n1, n2, n3, n4, n5, n6, n7, n8, n9⟩
 ·have hH : Fm.here (.mk 1 a v ps) = (decide (ps.length = 0) && a.none && (v == [])) := rfl
  rw [hH] at hN
  have hq : isQ 1 = false := rfl
  have hb : zjc 1 = false := rfl
  simp only [fmD, zab, Fm.op, Fm.atom, Fm.var, Fm.parts]
  refine zah Tryz.call182 Tryz.func182 rfl (by kernel_rfl) (zat (by kernel_rfl)) ?_
  simp -implicitDefEqProofs only [go_sem, Tryz.results182]
  simp only [e0]
  refine ⟨fun h => ?_, fun h => ?_⟩
  ·have h' : decide (ps.length = 0) = true := by simpa using h
   refine callF (zaj 1) (by simp -implicitDefEqProofs only [go_sem, hq]) ?_
   simp -implicitDefEqProofs only [go_sem, hq]
   refine callF (zaj 1) (by simp -implicitDefEqProofs only [go_sem, hq]) ?_
   simp -implicitDefEqProofs only [go_sem, hq]
   refine ⟨fun h1 => ?_, fun h1 => ?_⟩
   ·rw [hN, show (v == []) = false by simpa using h1, Bool.and_false, Bool.false_and]
   ·have h1' : (v == []) = true := by simpa using h1
    refine callF (zbo a) (by simp -implicitDefEqProofs only [go_sem, zaa]) ?_
    simp -implicitDefEqProofs only [go_sem, zaa]
    refine ⟨fun h2 => ?_, fun h2 => ?_⟩
    ·rw [hN, show a.none = false by simpa using h2, Bool.and_false, Bool.false_and, Bool.false_and]
    ·have h2' : a.none = true := by simpa using h2
     refine callF (zar ps (fun x => !x.forms) _ [] H1) (by simp -implicitDefEqProofs only [go_sem]) ?_
     simp -implicitDefEqProofs only [go_sem]
     rw [zc2, hN, h', h1', h2']; rfl
  ·rw [hN, show decide (ps.length = 0) = false by simpa using h]; rfl
 ·have hH : Fm.here (.mk 2 a v ps) = (decide (ps.length = 0) && a.none && (v == [])) := rfl
  rw [hH] at hN
  have hq : isQ 2 = false := rfl
  have hb : zjc 2 = false := rfl
  simp only [fmD, zab, Fm.op, Fm.atom, Fm.var, Fm.parts]
  refine zah Tryz.call182 Tryz.func182 rfl (by kernel_rfl) (zat (by kernel_rfl)) ?_
  simp -implicitDefEqProofs only [go_sem, Tryz.results182]
  simp only [e0]
  refine ⟨fun h => ?_, fun h => ?_⟩
  ·have h' : decide (ps.length = 0) = true := by simpa using h
   refine callF (zaj 2) (by simp -implicitDefEqProofs only [go_sem, hq]) ?_
   simp -implicitDefEqProofs only [go_sem, hq]
   refine callF (zaj 2) (by simp -implicitDefEqProofs only [go_sem, hq]) ?_
   simp -implicitDefEqProofs only [go_sem, hq]
   refine ⟨fun h1 => ?_, fun h1 => ?_⟩
   ·rw [hN, show (v == []) = false by simpa using h1, Bool.and_false, Bool.false_and]
   ·have h1' : (v == []) = true := by simpa using h1
    refine callF (zbo a) (by simp -implicitDefEqProofs only [go_sem, zaa]) ?_
    simp -implicitDefEqProofs only [go_sem, zaa]
    refine ⟨fun h2 => ?_, fun h2 => ?_⟩
    ·rw [hN, show a.none = false by simpa using h2, Bool.and_false, Bool.false_and, Bool.false_and]
    ·have h2' : a.none = true := by simpa using h2
     refine callF (zar ps (fun x => !x.forms) _ [] H1) (by simp -implicitDefEqProofs only [go_sem]) ?_
     simp -implicitDefEqProofs only [go_sem]
     rw [zc2, hN, h', h1', h2']; rfl
  ·rw [hN, show decide (ps.length = 0) = false by simpa using h]; rfl
 ·have hH : Fm.here (.mk 3 a v ps) = (decide (ps.length = 0) && a.atomOk && (v == [])) := rfl
  rw [hH] at hN
  have hq : isQ 3 = false := rfl
  have hb : zjc 3 = false := rfl
  simp only [fmD, zab, Fm.op, Fm.atom, Fm.var, Fm.parts]
  refine zah Tryz.call182 Tryz.func182 rfl (by kernel_rfl) (zat (by kernel_rfl)) ?_
  simp -implicitDefEqProofs only [go_sem, Tryz.results182]
  simp only [e0]
  refine ⟨fun h => ?_, fun h => ?_⟩
  ·have h' : decide (ps.length = 0) = true := by simpa using h
   refine callF (zaj 3) (by simp -implicitDefEqProofs only [go_sem, hq]) ?_
   simp -implicitDefEqProofs only [go_sem, hq]
   refine callF (zaj 3) (by simp -implicitDefEqProofs only [go_sem, hq]) ?_
   simp -implicitDefEqProofs only [go_sem, hq]
   refine ⟨fun h1 => ?_, fun h1 => ?_⟩
   ·rw [hN, show (v == []) = false by simpa using h1, Bool.and_false, Bool.false_and]
   ·have h1' : (v == []) = true := by simpa using h1
    refine callF (zkm a ha) (by simp -implicitDefEqProofs only [go_sem, zaa]) ?_
    simp -implicitDefEqProofs only [go_sem, zaa]
    refine And.symm ⟨fun h2 => ?_, fun h2 => ?_⟩
    ·rw [hN, show a.atomOk = false by simpa using h2, Bool.and_false, Bool.false_and, Bool.false_and]
    ·have h2' : a.atomOk = true := by simpa using h2
     refine callF (zar ps (fun x => !x.forms) _ [] H1) (by simp -implicitDefEqProofs only [go_sem]) ?_
     simp -implicitDefEqProofs only [go_sem]
     rw [zc2, hN, h', h1', h2']; rfl
  ·rw [hN, show decide (ps.length = 0) = false by simpa using h]; rfl
 ·have hH : Fm.here (.mk 4 a v ps) = (decide (ps.length = 1) && a.none && (v == [])) := rfl
  rw [hH] at hN
  have hq : isQ 4 = false := rfl
  have hb : zjc 4 = false := rfl
  simp only [fmD, zab, Fm.op, Fm.atom, Fm.var, Fm.parts]
  refine zah Tryz.call182 Tryz.func182 rfl (by kernel_rfl) (zat (by kernel_rfl)) ?_
  simp -implicitDefEqProofs only [go_sem, Tryz.results182]
  simp only [e1]
  refine ⟨fun h => ?_, fun h => ?_⟩
  ·have h' : decide (ps.length = 1) = true := by simpa using h
   refine callF (zaj 4) (by simp -implicitDefEqProofs only [go_sem, hq]) ?_
   simp -implicitDefEqProofs only [go_sem, hq]
   refine callF (zaj 4) (by simp -implicitDefEqProofs only [go_sem, hq]) ?_
   simp -implicitDefEqProofs only [go_sem, hq]
   refine ⟨fun h1 => ?_, fun h1 => ?_⟩
   ·rw [hN, show (v == []) = false by simpa using h1, Bool.and_false, Bool.false_and]
   ·have h1' : (v == []) = true := by simpa using h1
    refine callF (zbo a) (by simp -implicitDefEqProofs only [go_sem, zaa]) ?_
    simp -implicitDefEqProofs only [go_sem, zaa]
    refine ⟨fun h2 => ?_, fun h2 => ?_⟩
    ·rw [hN, show a.none = false by simpa using h2, Bool.and_false, Bool.false_and, Bool.false_and]
    ·have h2' : a.none = true := by simpa using h2
     refine callF (zar ps (fun x => !x.forms) _ [] H1) (by simp -implicitDefEqProofs only [go_sem]) ?_
     simp -implicitDefEqProofs only [go_sem]
     rw [zc2, hN, h', h1', h2']; rfl
  ·rw [hN, show decide (ps.length = 1) = false by simpa using h]; rfl
 ·have hH : Fm.here (.mk 5 a v ps) = (decide (ps.length = 2) && a.none && (v == [])) := rfl
  rw [hH] at hN
  have hq : isQ 5 = false := rfl
  have hb : zjc 5 = true := rfl
  simp only [fmD, zab, Fm.op, Fm.atom, Fm.var, Fm.parts]
  refine zah Tryz.call182 Tryz.func182 rfl (by kernel_rfl) (zat (by kernel_rfl)) ?_
  simp -implicitDefEqProofs only [go_sem, Tryz.results182]
  refine callF (zaj 5) (by simp -implicitDefEqProofs only [go_sem, hq]) ?_
  simp -implicitDefEqProofs only [go_sem, hq]
  refine callF (ze7 5) (by simp -implicitDefEqProofs only [go_sem, hb]) ?_
  simp -implicitDefEqProofs only [go_sem, hb]
  simp only [e2]
  refine ⟨fun h => ?_, fun h => ?_⟩
  ·have h' : decide (ps.length = 2) = true := by simpa using h
   refine callF (zaj 5) (by simp -implicitDefEqProofs only [go_sem, hq]) ?_
   simp -implicitDefEqProofs only [go_sem, hq]
   refine callF (zaj 5) (by simp -implicitDefEqProofs only [go_sem, hq]) ?_
   simp -implicitDefEqProofs only [go_sem, hq]
   refine ⟨fun h1 => ?_, fun h1 => ?_⟩
   ·rw [hN, show (v == []) = false by simpa using h1, Bool.and_false, Bool.false_and]
   ·have h1' : (v == []) = true := by simpa using h1
    refine callF (zbo a) (by simp -implicitDefEqProofs only [go_sem, zaa]) ?_
    simp -implicitDefEqProofs only [go_sem, zaa]
    refine ⟨fun h2 => ?_, fun h2 => ?_⟩
    ·rw [hN, show a.none = false by simpa using h2, Bool.and_false, Bool.false_and, Bool.false_and]
    ·have h2' : a.none = true := by simpa using h2
     refine callF (zar ps (fun x => !x.forms) _ [] H1) (by simp -implicitDefEqProofs only [go_sem]) ?_
     simp -implicitDefEqProofs only [go_sem]
     rw [zc2, hN, h', h1', h2']; rfl
  ·rw [hN, show decide (ps.length = 2) = false by simpa using h]; rfl
 ·have hH : Fm.here (.mk 6 a v ps) = (decide (ps.length = 2) && a.none && (v == [])) := rfl
  rw [hH] at hN
  have hq : isQ 6 = false := rfl
  have hb : zjc 6 = true := rfl
  simp only [fmD, zab, Fm.op, Fm.atom, Fm.var, Fm.parts]
  refine zah Tryz.call182 Tryz.func182 rfl (by kernel_rfl) (zat (by kernel_rfl)) ?_
  simp -implicitDefEqProofs only [go_sem, Tryz.results182]
  refine callF (zaj 6) (by simp -implicitDefEqProofs only [go_sem, hq]) ?_
  simp -implicitDefEqProofs only [go_sem, hq]
  refine callF (ze7 6) (by simp -implicitDefEqProofs only [go_sem, hb]) ?_
  simp -implicitDefEqProofs only [go_sem, hb]
  simp only [e2]
  refine ⟨fun h => ?_, fun h => ?_⟩
  ·have h' : decide (ps.length = 2) = true := by simpa using h
   refine callF (zaj 6) (by simp -implicitDefEqProofs only [go_sem, hq]) ?_
   simp -implicitDefEqProofs only [go_sem, hq]
   refine callF (zaj 6) (by simp -implicitDefEqProofs only [go_sem, hq]) ?_
   simp -implicitDefEqProofs only [go_sem, hq]
   refine ⟨fun h1 => ?_, fun h1 => ?_⟩
   ·rw [hN, show (v == []) = false by simpa using h1, Bool.and_false, Bool.false_and]
   ·have h1' : (v == []) = true := by simpa using h1
    refine callF (zbo a) (by simp -implicitDefEqProofs only [go_sem, zaa]) ?_
    simp -implicitDefEqProofs only [go_sem, zaa]
    refine ⟨fun h2 => ?_, fun h2 => ?_⟩
    ·rw [hN, show a.none = false by simpa using h2, Bool.and_false, Bool.false_and, Bool.false_and]
    ·have h2' : a.none = true := by simpa using h2
     refine callF (zar ps (fun x => !x.forms) _ [] H1) (by simp -implicitDefEqProofs only [go_sem]) ?_
     simp -implicitDefEqProofs only [go_sem]
     rw [zc2, hN, h', h1', h2']; rfl
  ·rw [hN, show decide (ps.length = 2) = false by simpa using h]; rfl
 ·have hH : Fm.here (.mk 7 a v ps) = (decide (ps.length = 2) && a.none && (v == [])) := rfl
  rw [hH] at hN
  have hq : isQ 7 = false := rfl
  have hb : zjc 7 = true := rfl
  simp only [fmD, zab, Fm.op, Fm.atom, Fm.var, Fm.parts]
  refine zah Tryz.call182 Tryz.func182 rfl (by kernel_rfl) (zat (by kernel_rfl)) ?_
  simp -implicitDefEqProofs only [go_sem, Tryz.results182]
  refine callF (zaj 7) (by simp -implicitDefEqProofs only [go_sem, hq]) ?_
  simp -implicitDefEqProofs only [go_sem, hq]
  refine callF (ze7 7) (by simp -implicitDefEqProofs only [go_sem, hb]) ?_
  simp -implicitDefEqProofs only [go_sem, hb]
  simp only [e2]
  refine ⟨fun h => ?_, fun h => ?_⟩
  ·have h' : decide (ps.length = 2) = true := by simpa using h
   refine callF (zaj 7) (by simp -implicitDefEqProofs only [go_sem, hq]) ?_
   simp -implicitDefEqProofs only [go_sem, hq]
   refine callF (zaj 7) (by simp -implicitDefEqProofs only [go_sem, hq]) ?_
   simp -implicitDefEqProofs only [go_sem, hq]
   refine ⟨fun h1 => ?_, fun h1 => ?_⟩
   ·rw [hN, show (v == []) = false by simpa using h1, Bool.and_false, Bool.false_and]
   ·have h1' : (v == []) = true := by simpa using h1
    refine callF (zbo a) (by simp -implicitDefEqProofs only [go_sem, zaa]) ?_
    simp -implicitDefEqProofs only [go_sem, zaa]
    refine ⟨fun h2 => ?_, fun h2 => ?_⟩
    ·rw [hN, show a.none = false by simpa using h2, Bool.and_false, Bool.false_and, Bool.false_and]
    ·have h2' : a.none = true := by simpa using h2
     refine callF (zar ps (fun x => !x.forms) _ [] H1) (by simp -implicitDefEqProofs only [go_sem]) ?_
     simp -implicitDefEqProofs only [go_sem]
     rw [zc2, hN, h', h1', h2']; rfl
  ·rw [hN, show decide (ps.length = 2) = false by simpa using h]; rfl
 ·have hH : Fm.here (.mk 8 a v ps) = (decide (ps.length = 1) && a.none && zav v) := rfl
  rw [hH] at hN
  have hq : isQ 8 = true := rfl
  have hb : zjc 8 = false := rfl
  simp only [fmD, zab, Fm.op, Fm.atom, Fm.var, Fm.parts]
  refine zah Tryz.call182 Tryz.func182 rfl (by kernel_rfl) (zat (by kernel_rfl)) ?_
  simp -implicitDefEqProofs only [go_sem, Tryz.results182]
  refine callF (zaj 8) (by simp -implicitDefEqProofs only [go_sem, hq]) ?_
  simp -implicitDefEqProofs only [go_sem, hq]
  simp only [e1]
  refine ⟨fun h => ?_, fun h => ?_⟩
  ·have h' : decide (ps.length = 1) = true := by simpa using h
   refine callF (zaj 8) (by simp -implicitDefEqProofs only [go_sem, hq]) ?_
   simp -implicitDefEqProofs only [go_sem, hq]
   refine callF (ze0 v) (by simp -implicitDefEqProofs only [go_sem]) ?_
   simp -implicitDefEqProofs only [go_sem]
   refine ⟨fun h1 => ?_, fun h1 => ?_⟩
   ·have h1' : zav v = true := by simpa using h1
    refine callF (zaj 8) (by simp -implicitDefEqProofs only [go_sem, hq]) ?_
    simp -implicitDefEqProofs only [go_sem, hq]
    refine callF (zbo a) (by simp -implicitDefEqProofs only [go_sem, zaa]) ?_
    simp -implicitDefEqProofs only [go_sem, zaa]
    refine ⟨fun h2 => ?_, fun h2 => ?_⟩
    ·rw [hN, show a.none = false by simpa using h2, Bool.and_false, Bool.false_and, Bool.false_and]
    ·have h2' : a.none = true := by simpa using h2
     refine callF (zar ps (fun x => !x.forms) _ [] H1) (by simp -implicitDefEqProofs only [go_sem]) ?_
     simp -implicitDefEqProofs only [go_sem]
     rw [zc2, hN, h', h1', h2']; rfl
   ·rw [hN, show zav v = false by simpa using h1, Bool.and_false, Bool.false_and]
  ·rw [hN, show decide (ps.length = 1) = false by simpa using h]; rfl
 ·have hH : Fm.here (.mk 9 a v ps) = (decide (ps.length = 1) && a.none && zav v) := rfl
  rw [hH] at hN
  have hq : isQ 9 = true := rfl
  have hb : zjc 9 = false := rfl
  simp only [fmD, zab, Fm.op, Fm.atom, Fm.var, Fm.parts]
  refine zah Tryz.call182 Tryz.func182 rfl (by kernel_rfl) (zat (by kernel_rfl)) ?_
  simp -implicitDefEqProofs only [go_sem, Tryz.results182]
  refine callF (zaj 9) (by simp -implicitDefEqProofs only [go_sem, hq]) ?_
  simp -implicitDefEqProofs only [go_sem, hq]
  simp only [e1]
  refine ⟨fun h => ?_, fun h => ?_⟩
  ·have h' : decide (ps.length = 1) = true := by simpa using h
   refine callF (zaj 9) (by simp -implicitDefEqProofs only [go_sem, hq]) ?_
   simp -implicitDefEqProofs only [go_sem, hq]
   refine callF (ze0 v) (by simp -implicitDefEqProofs only [go_sem]) ?_
   simp -implicitDefEqProofs only [go_sem]
   refine ⟨fun h1 => ?_, fun h1 => ?_⟩
   ·have h1' : zav v = true := by simpa using h1
    refine callF (zaj 9) (by simp -implicitDefEqProofs only [go_sem, hq]) ?_
    simp -implicitDefEqProofs only [go_sem, hq]
    refine callF (zbo a) (by simp -implicitDefEqProofs only [go_sem, zaa]) ?_
    simp -implicitDefEqProofs only [go_sem, zaa]
    refine ⟨fun h2 => ?_, fun h2 => ?_⟩
    ·rw [hN, show a.none = false by simpa using h2, Bool.and_false, Bool.false_and, Bool.false_and]
    ·have h2' : a.none = true := by simpa using h2
     refine callF (zar ps (fun x => !x.forms) _ [] H1) (by simp -implicitDefEqProofs only [go_sem]) ?_
     simp -implicitDefEqProofs only [go_sem]
     rw [zc2, hN, h', h1', h2']; rfl
   ·rw [hN, show zav v = false by simpa using h1, Bool.and_false, Bool.false_and]
  ·rw [hN, show decide (ps.length = 1) = false by simpa using h]; rfl
 ·have hH : Fm.here (.mk o a v ps) = false := by simp [Fm.here, zjc, isQ, Fm.op, *]
  rw [hH] at hN
  have f1 : (o == 1) = false := by simpa using n1
  have f2 : (o == 2) = false := by simpa using n2
  have f3 : (o == 3) = false := by simpa using n3
  have f4 : (o == 4) = false := by simpa using n4
  have hq : isQ o = false := by simp [isQ, n8, n9]
  have hb : zjc o = false := by simp [zjc, n5, n6, n7]
  simp only [fmD, zab, Fm.op, Fm.atom, Fm.var, Fm.parts]
  refine zah Tryz.call182 Tryz.func182 rfl (by kernel_rfl) (zat (by kernel_rfl)) ?_
  simp -implicitDefEqProofs only [go_sem, Tryz.results182, f1, f2, f3, f4]
  refine callF (zaj o) (by simp -implicitDefEqProofs only [go_sem, hq]) ?_
  simp -implicitDefEqProofs only [go_sem, hq]
  refine callF (ze7 o) (by simp -implicitDefEqProofs only [go_sem, hb]) ?_
  simp -implicitDefEqProofs only [go_sem, hb]
  rw [hN]; rfl
theorem zzh : ∀ a : Fm, a.wt <= 1099511627776 -> FC Tryz.prog 182 [fmD a] [bD a.forms] :=
 za6 fun o a v xs ih hs => ztl (.mk o a v xs) hs fun x hx => ih x hx (Nat.le_trans (zbm (a := .mk o a v xs) hx) hs)
theorem zce (a : Fm) (hs : a.wt <= 1099511627776) : FC Tryz.prog 116 [fmD a] [bD a.good] := by
 simp only [fmD, zab]
 refine zah Tryz.call116 Tryz.func116 rfl (by kernel_rfl) (zat (by kernel_rfl)) ?_
 simp -implicitDefEqProofs only [go_sem, Tryz.results116]
 refine callF (qaz a hs) (by simp -implicitDefEqProofs only [go_sem, zab]) ?_
 simp -implicitDefEqProofs only [go_sem, zab]
 rw [qcl]
 refine ⟨fun h => ?_, fun h => ?_⟩
 ·refine callF (zzh a hs) (by simp -implicitDefEqProofs only [go_sem, zab]) ?_
  simp -implicitDefEqProofs only [go_sem, zab]
  rw [Fm.good, h, Bool.true_and]
 ·rw [Fm.good, h, Bool.false_and]
end Go.Proofs.YtemnhgmgeijkcaaGreat
namespace Go.Proofs.YtemnhgmgeijkcaaGreat
set_option linter.unusedSimpArgs false
set_option linter.unusedVariables false
set_option linter.unusedSectionVars false
set_option maxRecDepth 4000
open Go.RowKit
theorem zp2 {a : Tm} (h : a.none = true) : a = .mk [] [] := by
 obtain ⟨n, xs⟩ := a
 simp only [Tm.none, Tm.name, Tm.args, Bool.and_eq_true, beq_iff_eq, decide_eq_true_eq, List.length_eq_zero_iff] at h
 rw [h.1, h.2]
theorem len1 {α : Type} {xs : List α} (h : xs.length = 1) : ∃ x, xs = [x] := by
 match xs, h with
 | [x], _ => exact ⟨x, rfl⟩
theorem len2 {α : Type} {xs : List α} (h : xs.length = 2) : ∃ x y, xs = [x, y] := by
 match xs, h with
 | [x, y], _ => exact ⟨x, y, rfl⟩
theorem zo4 (o : Int) (a : Tm) (v : Str) (ps : List Fm) : Fm.here (.mk o a v ps) =
  if (o == 1 || o == 2) = true then decide (ps.length = 0) && a.none && (v == [])
  else if (o == 3) = true then decide (ps.length = 0) && a.atomOk && (v == [])
  else if (o == 4) = true then decide (ps.length = 1) && a.none && (v == [])
  else if (o == 5 || o == 6 || o == 7) = true then decide (ps.length = 2) && a.none && (v == [])
  else if (o == 8 || o == 9) = true then decide (ps.length = 1) && a.none && zav v
  else false := rfl
theorem zd8 {f : Fm} (h : f.forms = true) :
  (f.parts = [] /\ (f.op = 1 \/ f.op = 2 \/ f.op = 3)) \/ (∃ p : Fm, f = mkF 4 [p] /\ p.forms = true) \/ (∃ (o : Int) (p q : Fm), (o = 5 \/ o = 6 \/ o = 7) /\ f = mkF o [p, q] /\ p.forms = true /\ q.forms = true) ∨
   ∃ (o : Int) (v : Str) (p : Fm), (o = 8 \/ o = 9) /\ f = .mk o (.mk [] []) v [p] /\ p.forms = true := by
 rw [Fm.forms_eq, Bool.and_eq_true] at h
 obtain ⟨h1, h2⟩ := h
 obtain ⟨o, a, v, ps⟩ := f
 rw [zo4] at h1
 simp only [Fm.op, Fm.parts] at h2 ⊢
 by_cases h12 : (o == 1 || o == 2) = true
 ·rw [if_pos h12] at h1
  simp only [Bool.or_eq_true, beq_iff_eq, Bool.and_eq_true, decide_eq_true_eq, List.length_eq_zero_iff] at h12 h1
  exact Or.inl ⟨h1.1.1, by omega⟩
 rw [if_neg h12] at h1
 by_cases h3 : (o == 3) = true
 ·rw [if_pos h3] at h1
  simp only [beq_iff_eq, Bool.and_eq_true, decide_eq_true_eq, List.length_eq_zero_iff] at h3 h1
  exact Or.inl ⟨h1.1.1, by omega⟩
 rw [if_neg h3] at h1
 by_cases h4 : (o == 4) = true
 ·rw [if_pos h4] at h1
  simp only [beq_iff_eq, Bool.and_eq_true, decide_eq_true_eq] at h4 h1
  obtain ⟨⟨h5, h6⟩, h7⟩ := h1
  obtain ⟨x, rfl⟩ := len1 h5
  rw [h4, zp2 h6, h7]
  exact Or.inr (Or.inl ⟨x, rfl, by simpa using h2⟩)
 rw [if_neg h4] at h1
 by_cases h5 : (o == 5 || o == 6 || o == 7) = true
 ·rw [if_pos h5] at h1
  simp only [Bool.or_eq_true, beq_iff_eq, Bool.and_eq_true, decide_eq_true_eq] at h5 h1
  obtain ⟨⟨h6, h7⟩, h8⟩ := h1
  obtain ⟨x, y, rfl⟩ := len2 h6
  rw [zp2 h7, h8]
  simp only [List.all_cons, List.all_nil, Bool.and_true, Bool.and_eq_true] at h2
  exact Or.inr (Or.inr (Or.inl ⟨o, x, y, by omega, rfl, h2.1, h2.2⟩))
 rw [if_neg h5] at h1
 by_cases h6 : (o == 8 || o == 9) = true
 ·rw [if_pos h6] at h1
  simp only [Bool.or_eq_true, beq_iff_eq, Bool.and_eq_true, decide_eq_true_eq] at h6 h1
  obtain ⟨⟨h7, h8⟩, h9⟩ := h1
  obtain ⟨x, rfl⟩ := len1 h7
  rw [zp2 h8]
  exact Or.inr (Or.inr (Or.inr ⟨o, v, x, by omega, rfl, by simpa using h2⟩))
 ·rw [if_neg h6] at h1; cases h1
theorem qfp (o : Int) (ps : List Fm) : (mkF o ps).parts = ps := rfl
end Go.Proofs.YtemnhgmgeijkcaaGreat
namespace Go.Proofs.YtemnhgmgeijkcaaGreat
set_option linter.unusedSimpArgs false
set_option linter.unusedVariables false
set_option linter.unusedSectionVars false
set_option maxRecDepth 4000
open Go.RowKit Go.Sort
theorem ztr {P : Program} {f : FuncId} (hc : za3 P f) (hS : ∀ (blk off cap : Nat) (zs : List (List UInt8)) (w : World), Holds encStr w blk off zs.toArray -> zs.length <= 9223372036854775807 -> zs.length <= cap →
   Calls P f #[.slice (some ⟨blk, off, none⟩) zs.length cap] w fun e w' => e = .returned (.slice (some ⟨blk, off, none⟩) (Lib.compact zs).length cap) /\ ∃ q, w' = putRow encStr (Sort.ahead w q) blk off (Lib.compact zs ++ List.replicate (zs.length - (Lib.compact zs).length) []).toArray)
  (hN : ∀ (a : Option Addr) (cap : Nat) (w : World), Calls P f #[.slice a 0 cap] w fun e w' => e = .returned (.slice a 0 cap) /\ w' = w) (hsub : ∀ zs : List (List UInt8), (Lib.compact zs).length <= zs.length /\ ∀ s ∈ Lib.compact zs, s ∈ zs) (ss : List Str) : GC P f [(true, .one (zb0 ss))] [.one (zb0 (Lib.compact ss))] := by
 refine ⟨hc, fun w vs fp tp hv hn => ?_⟩
 obtain ⟨v, _, f1, _, t1, _, rfl, rfl, rfl, ⟨hg, _⟩, hv⟩ := hv
 obtain ⟨rfl, rfl, rfl⟩ := hv
 unfold zax at hg
 obtain ⟨ao, cap, rfl, q1, q2, q3⟩ := hg
 rw [List.length_map] at q1 ⊢
 rcases q3 with ⟨rfl, rfl, q3, rfl⟩ | ⟨b, cells, ty, fps, rfl, rfl, q3, q4, q5⟩
 ·have hs : ss = [] := List.map_eq_nil_iff.1 q3
  subst hs
  refine (hN none 0 w).mono ?_
  rintro e w' ⟨rfl, rfl⟩
  refine ⟨[_], [], [], rfl, ⟨_, [], [], [], [], [], rfl, rfl, rfl, ⟨?_, rfl⟩, rfl, rfl, rfl⟩, List.nodup_nil, by simp, Bk.refl _ _⟩
  unfold zax
  exact ⟨none, 0, rfl, by simp [Lib.compact, Lib.compactUpTo], by simp, Or.inl ⟨rfl, rfl, by simp [Lib.compact, Lib.compactUpTo], rfl⟩⟩
 ·obtain ⟨_, vs, k1, k2, k3⟩ := q5.vals
  rw [zet] at k3
  obtain ⟨rfl, rfl, k4⟩ := zlr k3
  have hsz : ss.length <= cells.size := by omega
  have ht : cells.toList.take ss.length = ss.map encStr := by
   apply List.ext_getElem?
   intro j
   by_cases hj : j < ss.length
   ·rw [List.getElem?_take_of_lt hj, Array.getElem?_toList]
    have := k2 j _ (List.getElem?_eq_getElem (by simpa using hj))
    rw [Nat.zero_add] at this
    rw [this, List.getElem?_eq_getElem (by simpa using hj)]
   ·rw [List.getElem?_take_eq_none (by omega), List.getElem?_eq_none (by simp; omega)]
  have hM : (9223372036854775807 : Nat) = zd7 := rfl
  refine (hS b 0 cap ss w (holds_of_block q3 ht) (by omega) q1).mono ?_
  rintro e w' ⟨rfl, q, rfl⟩
  obtain ⟨hsl, hsm⟩ := hsub ss
  have hw : putRow encStr (Sort.ahead w q) b 0 (Lib.compact ss ++ List.replicate (ss.length - (Lib.compact ss).length) []).toArray = grow (putRow encStr (Sort.ahead w q) b 0 (Lib.compact ss ++ List.replicate (ss.length - (Lib.compact ss).length) []).toArray) #[] := by unfold grow; simp only [Array.append_empty]
  rw [hw]
  have hgr := grownBy_sorted (w := w) (g := b) (n := q) (os := #[]) (Lib.compact ss ++ List.replicate (ss.length - (Lib.compact ss).length) []).toArray
  have hlen : (Lib.compact ss ++ List.replicate (ss.length - (Lib.compact ss).length) ([] : Str)).length = ss.length := by simp; omega
  have htk := take_putCells cells (Lib.compact ss ++ List.replicate (ss.length - (Lib.compact ss).length) []) (by omega)
  refine ⟨[_], [b], [b], rfl, ⟨_, [], [b], [], [b], [], rfl, rfl, rfl, ⟨?_, rfl⟩, rfl, rfl, rfl⟩, by simp, fun x hx => Or.inl (by simpa using hx), ⟨hgr.os, hgr.tape, hgr.output, hgr.size, fun k hk => hgr.block k hk.1 fun e => hk.2 (by cases e; simp)⟩⟩
  unfold zax
  refine ⟨_, cap, by rw [List.length_map], by rw [List.length_map]; omega, q2, Or.inr ⟨b, _, ty, [], rfl, rfl, heap_sorted _ q3, by simp [putCells, q4], ?_⟩⟩
  refine zak.of_vals (zmx _) (by rw [zet]; exact zlp fun s hs => k4 s (hsm s hs)) fun j u hu => ?_
  have hu' : ((Lib.compact ss ++ List.replicate (ss.length - (Lib.compact ss).length) ([] : Str)).map encStr)[j]? = some u := by
   rw [List.map_append]
   have hj : j < ((Lib.compact ss).map encStr).length := (List.getElem?_eq_some_iff.1 hu).1
   rw [List.getElem?_append_left hj]; exact hu
  rw [<- htk, List.getElem?_take] at hu'
  split at hu'
  ·simpa using hu'
  ·cases hu'
theorem zqh (zs : List (List UInt8)) : (Lib.compact zs).length <= zs.length /\ ∀ s ∈ Lib.compact zs, s ∈ zs := by
 unfold Lib.compact Lib.compactUpTo
 refine ⟨?_, fun s hs => ?_⟩
 ·rw [List.length_map]
  have := List.length_filter_le (Lib.keeps zs.toArray) (List.range zs.length)
  simpa using this
 ·obtain ⟨i, hi, rfl⟩ := List.mem_map.1 hs
  have hi : i < zs.length := by simpa using List.mem_range.1 (List.mem_filter.1 hi).1
  simp [hi]
theorem znh (ss : List Str) : GC Tryz.prog 119 [(true, .one (zb0 ss))] [.one (zb0 (Lib.compact ss))] :=
 ztr Tryz.call119 (fun blk off cap zs w h1 h2 h3 => Any.slices_Compact_string Tryz.lays194 blk off cap zs w h1 h2 h3) (fun a cap w => Any.slices_Compact_string_empty Tryz.lays194 a cap w) zqh ss
end Go.Proofs.YtemnhgmgeijkcaaGreat
namespace Go.Proofs.YtemnhgmgeijkcaaGreat
set_option linter.unusedSimpArgs false
set_option linter.unusedVariables false
set_option linter.unusedSectionVars false
set_option maxRecDepth 4000
open Go.RowKit
theorem zdz {f : Fm} {x : Fm} (h : x ∈ f.parts) : x.nodes < f.nodes := by
 have := f.nodes_eq
 obtain ⟨i, hi, rfl⟩ := List.getElem_of_mem h
 have := zbe Fm.nodes f.parts _ (List.getElem_mem hi)
 omega
def exN (f : Fm) : List Str × Fm := if h : f.op = 9 /\ 0 < f.parts.length then (f.var :: (exN (f.parts[0]'h.2)).1, (exN (f.parts[0]'h.2)).2) else ([], f)
termination_by f.nodes
decreasing_by all_goals exact zdz (List.getElem_mem h.2)
theorem zy7 {f : Fm} (h : (f.op == 9) = false) : exN f = ([], f) := by rw [exN, dif_neg]; rintro ⟨h1, _⟩; rw [h1] at h; exact absurd h (by decide)
theorem zrs {f : Fm} (h : (f.op == 9) = true) (hf : f.forms = true) : ∃ p, f.parts = [p] /\ p.forms = true := by
 rw [Fm.forms_eq, Bool.and_eq_true] at hf
 have h9 : f.op = 9 := by simpa using h
 have h1 := hf.1
 unfold Fm.here at h1
 rw [h9] at h1
 simp only [show ((9 : Int) == 1 || (9 : Int) == 2) = false by decide, show ((9 : Int) == 3) = false by decide, show ((9 : Int) == 4) = false by decide, show zjc 9 = false by decide, show isQ 9 = true by decide, if_true, Bool.false_eq_true, if_false, Bool.and_eq_true, decide_eq_true_eq] at h1
 obtain ⟨p, hp⟩ := List.length_eq_one_iff.1 h1.1.1
 exact ⟨p, hp, List.all_eq_true.1 hf.2 p (by rw [hp]; simp)⟩
theorem zzw {f p : Fm} (h : (f.op == 9) = true) (hp : f.parts = [p]) : exN f = (f.var :: (exN p).1, (exN p).2) := by
 have h9 : f.op = 9 := by simpa using h
 have hl : 0 < f.parts.length := by rw [hp]; simp
 rw [exN, dif_pos ⟨h9, hl⟩]
 have : f.parts[0]'hl = p := by simp [hp]
 rw [this]
theorem zez : ∀ f : Fm, (exN f).1.length <= f.nodes := za6 fun o a v ps ih => by
 by_cases h : ((Fm.mk o a v ps).op = 9 /\ 0 < (Fm.mk o a v ps).parts.length)
 ·rw [exN, dif_pos h]
  have hm := List.getElem_mem h.2
  have h1 := ih _ hm
  have h2 := zdz hm
  simp only [List.length_cons]
  omega
 ·rw [exN, dif_neg h]; exact Nat.zero_le _
theorem zzl : ∀ f : Fm, (exN f).2.wt <= f.wt := za6 fun o a v ps ih => by
 by_cases h : ((Fm.mk o a v ps).op = 9 /\ 0 < (Fm.mk o a v ps).parts.length)
 ·rw [exN, dif_pos h]
  have hm := List.getElem_mem h.2
  exact Nat.le_trans (ih _ hm) (zbm hm)
 ·rw [exN, dif_neg h]; exact Nat.le_refl _
theorem zxo : ∀ f : Fm, f.forms = true -> (exN f).2.forms = true := za6 fun o a v ps ih hf => by
 by_cases h : ((Fm.mk o a v ps).op = 9 /\ 0 < (Fm.mk o a v ps).parts.length)
 ·rw [exN, dif_pos h]
  have hm := List.getElem_mem h.2
  rw [Fm.forms_eq, Bool.and_eq_true] at hf
  exact ih _ hm (List.all_eq_true.1 hf.2 _ hm)
 ·rw [exN, dif_neg h]; exact hf
theorem zr0 (f : Fm) (hf : f.forms = true) (hw : f.wt <= 1048576) : XC Tryz.prog 65 [(false, fmD f)] [(true, .one (zb0 (exN f).1)), (false, fmD (exN f).2)] := by
 have hN := zb4 f
 have hL := zez f
 simp only [fmD, zab]
 refine XC_of Tryz.call65 Tryz.func65 rfl (by kernel_rfl) (by simp only [List.length_cons, List.length_nil, Tryz.ntmps65]; omega) (by simp [zb6, T.isPin]) ?_
 simp -implicitDefEqProofs only [go_sem, Tryz.results65]
 refine za9 (by simp -implicitDefEqProofs only [go_sem]) ?_
 simp -implicitDefEqProofs only [go_sem]
 refine zae (fun x : List Str × Fm => hd [(1, .one (.bx 1 0)), (3, .one (.bx 3 0)), (4, .one (.ow 160 0))] [(1, [.t (.int .i64 x.2.op), .t (.str x.2.atom.name), .rn (tmS x.2.atom.args), .t (.str x.2.var), .rn (fmS x.2.parts)]), (3, [.any, .any, .any, .any, .any])] [(160, ⟨true, 1, x.1.map fun s => [.str s], 0, true⟩)]) (fun x => x.2.forms = true /\ x.1 ++ (exN x.2).1 = (exN f).1 /\ (exN x.2).2 = (exN f).2) (fun x => x.2.nodes) ([], f) (zac ?_) ⟨hf, rfl, rfl⟩ ?_
 ·simp -implicitDefEqProofs only [go_sem]
 ·rintro ⟨ns, g⟩ ⟨h1, h2, h3⟩
  simp only at h1 h2 h3
  have hG := zez g
  cases h9 : g.op == 9
  ·rw [zy7 h9] at h2 h3
   rw [List.append_nil] at h2
   simp only at h2 h3
   subst h2 h3
   simp -implicitDefEqProofs only [go_sem, h9]
   refine drawn (by kernel_rfl) ?_
   simp -implicitDefEqProofs only [go_sem]
   kernel_rfl
  ·obtain ⟨p, hp, hpf⟩ := zrs h9 h1
   rw [zzw h9 hp] at h2 h3
   have hl : ns.length <= 4294967295 := by
    have := congrArg List.length h2
    simp only [List.length_append, List.length_cons] at this
    omega
   have hp0 : g.parts.length = 1 := by rw [hp]; rfl
   simp -implicitDefEqProofs only [go_sem, h9]
   refine za9 (by simp -implicitDefEqProofs only [go_sem]) ?_
   simp -implicitDefEqProofs only [go_sem]
   refine apD true (by simp -implicitDefEqProofs only [go_sem, hl, ne_eq, List.length_map]) ?_
   simp -implicitDefEqProofs only [go_sem, hl, ne_eq, List.length_map]
   have e0 : (List.map fmC g.parts).getD 0 [] = fmC p := by rw [hp]; rfl
   simp -implicitDefEqProofs only [go_sem, hp0, e0, zab p]
   refine ⟨(ns ++ [g.var], p), ⟨hpf, by rw [List.append_assoc]; exact h2, h3⟩, zdz (by rw [hp]; simp), zac ?_⟩
   simp -implicitDefEqProofs only [go_sem]
   simp
theorem zof (f : Fm) (hf : f.forms = true) (hw : f.wt <= 1048576) : XC Tryz.prog 111 [(false, fmD f)] [(true, .one (zb0 (exN f).1)), (false, fmD (exN f).2)] := by
 have hN := zb4 f
 have hL := zez f
 simp only [fmD, zab]
 refine XC_of Tryz.call111 Tryz.func111 rfl (by kernel_rfl) (by simp only [List.length_cons, List.length_nil, Tryz.ntmps111]; omega) (by simp [zb6, T.isPin]) ?_
 simp -implicitDefEqProofs only [go_sem, Tryz.results111]
 refine za9 (by simp -implicitDefEqProofs only [go_sem]) ?_
 simp -implicitDefEqProofs only [go_sem]
 refine zae (fun x : List Str × Fm => hd [(1, .one (.bx 1 0)), (3, .one (.bx 3 0)), (4, .one (.ow 160 0))] [(1, [.t (.int .i64 x.2.op), .t (.str x.2.atom.name), .rn (tmS x.2.atom.args), .t (.str x.2.var), .rn (fmS x.2.parts)]), (3, [.any, .any, .any, .any, .any])] [(160, ⟨true, 1, x.1.map fun s => [.str s], 0, true⟩)]) (fun x => x.2.forms = true /\ x.1 ++ (exN x.2).1 = (exN f).1 /\ (exN x.2).2 = (exN f).2) (fun x => x.2.nodes) ([], f) (zac ?_) ⟨hf, rfl, rfl⟩ ?_
 ·simp -implicitDefEqProofs only [go_sem]
 ·rintro ⟨ns, g⟩ ⟨h1, h2, h3⟩
  simp only at h1 h2 h3
  have hG := zez g
  cases h9 : g.op == 9
  ·rw [zy7 h9] at h2 h3
   rw [List.append_nil] at h2
   simp only at h2 h3
   subst h2 h3
   simp -implicitDefEqProofs only [go_sem, h9]
   refine drawn (by kernel_rfl) ?_
   simp -implicitDefEqProofs only [go_sem]
   kernel_rfl
  ·obtain ⟨p, hp, hpf⟩ := zrs h9 h1
   rw [zzw h9 hp] at h2 h3
   have hl : ns.length <= 4294967295 := by
    have := congrArg List.length h2
    simp only [List.length_append, List.length_cons] at this
    omega
   have hp0 : g.parts.length = 1 := by rw [hp]; rfl
   simp -implicitDefEqProofs only [go_sem, h9]
   refine za9 (by simp -implicitDefEqProofs only [go_sem]) ?_
   simp -implicitDefEqProofs only [go_sem]
   refine apD true (by simp -implicitDefEqProofs only [go_sem, hl, ne_eq, List.length_map]) ?_
   simp -implicitDefEqProofs only [go_sem, hl, ne_eq, List.length_map]
   have e0 : (List.map fmC g.parts).getD 0 [] = fmC p := by rw [hp]; rfl
   simp -implicitDefEqProofs only [go_sem, hp0, e0, zab p]
   refine ⟨(ns ++ [g.var], p), ⟨hpf, by rw [List.append_assoc]; exact h2, h3⟩, zdz (by rw [hp]; simp), zac ?_⟩
   simp -implicitDefEqProofs only [go_sem]
   simp
def za1 : Fm -> Bool := Fm.fold fun o _ _ _ rs => !(o == 8 || o == 9) && rs.all id
theorem zcd (f : Fm) : za1 f = (!(f.op == 8 || f.op == 9) && f.parts.all za1) := by
 unfold za1
 rw [Fm.fold_eq]
 simp only [List.all_map]
 rfl
theorem zzv (f : Fm) (H : FC Tryz.prog 121 [fmD f, .one (qa5 [8, 9])] [bD (!za1 f)]) : FC Tryz.prog 187 [fmD f, .one (.ptr [qa5 [8, 9]])] [bD (!za1 f)] := by
 simp only [fmD, zab] at H ⊢
 refine zah Tryz.call187 Tryz.func187 rfl (by kernel_rfl) (zat (by kernel_rfl)) ?_
 simp -implicitDefEqProofs only [go_sem, Tryz.results187]
 refine callF (H) (by simp -implicitDefEqProofs only [go_sem]) ?_
 simp -implicitDefEqProofs only [go_sem]
theorem qcq (f : Fm) (H : ∀ x ∈ f.parts, FC Tryz.prog 121 [fmD x, .one (qa5 [8, 9])] [bD (!za1 x)]) : FC Tryz.prog 121 [fmD f, .one (qa5 [8, 9])] [bD (!za1 f)] := by
 have HC := zar f.parts (fun x => !za1 x) 187 [.ptr [qa5 [8, 9]]] fun x hx => zzv x (H x hx)
 have h9 : ([8, 9] : List Int).contains f.op = (f.op == 8 || f.op == 9) := by simp only [List.contains, List.elem]; cases h : f.op == 8 <;> cases h2 : f.op == 9 <;> rfl
 have hv := zcd f
 simp only [fmD, zab]
 refine zah Tryz.call121 Tryz.func121 rfl (by kernel_rfl) (zat (by kernel_rfl)) ?_
 simp -implicitDefEqProofs only [go_sem, Tryz.results121]
 refine callF (zlt [8, 9] f.op) (by simp -implicitDefEqProofs only [go_sem, h9]) ?_
 simp -implicitDefEqProofs only [go_sem, h9]
 refine ⟨fun h => ?_, fun h => ?_⟩
 ·refine callF (HC) (by simp -implicitDefEqProofs only [go_sem]) ?_
  simp -implicitDefEqProofs only [go_sem]
  rw [hv, h]
  simp [List.any_eq_not_all_not]
 ·rw [hv, h]; rfl
theorem qf4 : ∀ f : Fm, FC Tryz.prog 121 [fmD f, .one (qa5 [8, 9])] [bD (!za1 f)] := za6 fun o a v ps ih => qcq (.mk o a v ps) ih
theorem zp4 (f : Fm) (hw : f.wt <= 1048576) (H : ∀ x ∈ f.parts, FC Tryz.prog 172 [fmD x] [bD (za1 x)]) : FC Tryz.prog 172 [fmD f] [bD (za1 f)] := by
 have hv := zcd f
 have hW := f.wt_eq
 simp only [fmD, zab]
 refine zah Tryz.call172 Tryz.func172 rfl (by kernel_rfl) (zat (by kernel_rfl)) ?_
 simp -implicitDefEqProofs only [go_sem, Tryz.results172]
 cases h8 : f.op == 8
 ·cases h9 : f.op == 9
  ·rw [h8, h9] at hv
   simp only [Bool.or_self, Bool.not_false, Bool.true_and] at hv
   simp -implicitDefEqProofs only [go_sem, h8, h9]
   refine zae (fun k : Nat => hd [(1, .one (.bx 1 0)), (3, vI k)] [(1, [.t (.int .i64 f.op), .t (.str f.atom.name), .t (tmS f.atom.args), .t (.str f.var), .t (fmS f.parts)])] []) (fun k => k <= f.parts.length /\ (f.parts.take k).all za1 = true) (fun k => f.parts.length - k) 0 (zac ?_) ⟨Nat.zero_le _, rfl⟩ ?_
   ·simp -implicitDefEqProofs only [go_sem]
   ·rintro k ⟨hk, hT⟩
    by_cases hlt : k < f.parts.length
    ·have HC := H f.parts[k] (List.getElem_mem hlt)
     simp only [fmD, zab f.parts[k]] at HC
     simp -implicitDefEqProofs only [go_sem, zag, hlt, zab f.parts[k]]
     refine callF (HC) (by simp -implicitDefEqProofs only [go_sem]) ?_
     simp -implicitDefEqProofs only [go_sem]
     refine ⟨fun h => ?_, fun h => ?_⟩
     ·have hn : f.parts.all za1 = false := by
       rw [List.all_eq_false]
       exact ⟨_, List.getElem_mem hlt, by simpa using h⟩
      rw [hv, hn]
     ·refine ⟨k + 1, ⟨hlt, ?_⟩, by omega, zac ?_⟩
      ·rw [List.take_succ_eq_append_getElem hlt, List.all_append, hT]
       simpa using h
      ·simp -implicitDefEqProofs only [go_sem]
       rw [zao (by omega)]
    ·simp -implicitDefEqProofs only [go_sem, hlt]
     rw [List.take_of_length_le (by omega)] at hT
     rw [hv, hT]
  ·simp -implicitDefEqProofs only [go_sem, h8, h9]
   rw [hv, h8, h9]; rfl
 ·simp -implicitDefEqProofs only [go_sem, h8]
  rw [hv, h8]; rfl
theorem zta : ∀ f : Fm, f.wt <= 1048576 -> FC Tryz.prog 172 [fmD f] [bD (za1 f)] := za6 fun o a v ps ih hw => zp4 (.mk o a v ps) hw fun x hx => ih x hx (Nat.le_trans (zbm (a := .mk o a v ps) hx) hw)
end Go.Proofs.YtemnhgmgeijkcaaGreat
namespace Go.Proofs.YtemnhgmgeijkcaaGreat
set_option linter.unusedSimpArgs false
set_option linter.unusedVariables false
set_option linter.unusedSectionVars false
set_option maxRecDepth 4000
open Go.RowKit
theorem zs8 (n : Str) (t : Tm) (x : Str) : FC Tryz.prog 239 [.agg [sbS [(n, t)]], sD x] [iD (if (n == x) = true then 0 else -1)] := by
 have hS : sbS [(n, t)] = .sl 3 [[.str n, .str t.name, .sl 2 (t.args.map tmC)]] := by unfold sbS; rw [List.map_singleton, zq5]
 rw [hS]
 refine zah Tryz.call239 Tryz.func239 rfl (by kernel_rfl) (zat (by kernel_rfl)) ?_
 simp -implicitDefEqProofs only [go_sem, Tryz.results239]
 refine zae (fun k : Nat => hd [(1, vT (.str x)), (2, .one (.bx 2 0)), (5, vI k)] [(2, [.t (.sl 3 [[.str n, .str t.name, .sl 2 (t.args.map tmC)]])])] []) (fun k => k = 0 \/ (k = 1 /\ (n == x) = false)) (fun k => 1 - k) 0 (zac ?_) (Or.inl rfl) ?_
 ·simp -implicitDefEqProofs only [go_sem]
 ·rintro k (rfl | ⟨rfl, hn⟩)
  ·cases hn : n == x
   ·simp -implicitDefEqProofs only [go_sem, hn]
    refine ⟨1, Or.inr rfl, by decide, zac ?_⟩
    have hz : IntKind.i64.wrap 1 = 1 := by decide
    simp -implicitDefEqProofs only [go_sem, hz]
   ·simp -implicitDefEqProofs only [go_sem, hn]
  ·simp -implicitDefEqProofs only [go_sem, hn]
theorem zyf (n : Str) (t : Tm) (ht : t.wt <= 1048576) (hn : (t.name == n) = false) : FC Tryz.prog 176 [.agg [sbS []], sD n, tmD t] [.agg [sbS [(n, t)]]] := by
 have hS : sbS [(n, t)] = .sl 3 [[.str n, .str t.name, .sl 2 (t.args.map tmC)]] := by unfold sbS; rw [List.map_singleton, zq5]
 have hS0 : sbS [] = .sl 3 [] := rfl
 have HK := zp9 t ht
 rw [hS, hS0]
 simp only [tmD, zaa t] at HK ⊢
 refine zcp Tryz.call176 Tryz.func176 rfl (by kernel_rfl) (zat (by kernel_rfl)) ?_
 simp -implicitDefEqProofs only [go_sem, Tryz.results176, hn]
 refine zae (fun k : Nat => hd [(1, vT (.str n)), (3, .one (.bx 3 0)), (5, .one (.bx 5 0)), (6, .one (.bx 6 0)), (7, vI (0 : Nat))] [(3, [.rn (.sl 3 [])]), (5, [.t (.str t.name), .rn (.sl 2 (t.args.map tmC))]), (6, [.nl 3])] []) (fun k => k = 0) (fun k => 0) 0 (zac ?_) rfl ?_
 ·simp -implicitDefEqProofs only [go_sem]
 ·rintro k rfl
  simp -implicitDefEqProofs only [go_sem]
  refine za9 (by simp -implicitDefEqProofs only [go_sem]) ?_
  simp -implicitDefEqProofs only [go_sem]
  refine apD true (by simp -implicitDefEqProofs only [go_sem, ne_eq]) ?_
  simp -implicitDefEqProofs only [go_sem, ne_eq]
  refine callF (HK) (by simp -implicitDefEqProofs only [go_sem]) ?_
  simp -implicitDefEqProofs only [go_sem]
  refine za9 (by simp -implicitDefEqProofs only [go_sem]) ?_
  simp -implicitDefEqProofs only [go_sem]
  refine apD true (by simp -implicitDefEqProofs only [go_sem, ne_eq]) ?_
  simp -implicitDefEqProofs only [go_sem, ne_eq]
  refine apD true (by simp -implicitDefEqProofs only [go_sem, ne_eq]) ?_
  simp -implicitDefEqProofs only [go_sem, ne_eq]
theorem ztb (n : Str) (t : Tm) (hn : (t.name == n) = true) : RC Tryz.prog 176 [.agg [sbS []], sD n, tmD t] [.agg [sbS []]] := by
 have hS0 : sbS [] = .sl 3 [] := rfl
 rw [hS0]
 simp only [tmD, zaa t]
 refine RC_of Tryz.call176 Tryz.func176 rfl (by kernel_rfl) (zat (by kernel_rfl)) ?_
 simp -implicitDefEqProofs only [go_sem, Tryz.results176, hn]
def zb8 (l : List (Str × Tm)) : Tm -> Tm := Tm.fold fun m _ rs => if zav m = true then (match l.find? fun p => p.1 == m with | some p => p.2 | none => .mk m []) else .mk m rs
theorem zfk (l : List (Str × Tm)) (a : Tm) : zb8 l a = if zav a.name = true then (match l.find? fun p => p.1 == a.name with | some p => p.2 | none => .mk a.name []) else .mk a.name (a.args.map (zb8 l)) := by unfold zb8; rw [Tm.fold_eq]
theorem zo3 (x : Str) : FC Tryz.prog 239 [.agg [sbS []], sD x] [iD (-1)] := by
 have hS : sbS [] = .sl 3 [] := rfl
 rw [hS]
 refine zah Tryz.call239 Tryz.func239 rfl (by kernel_rfl) (zat (by kernel_rfl)) ?_
 simp -implicitDefEqProofs only [go_sem, Tryz.results239]
 refine zae (fun k : Nat => hd [(1, vT (.str x)), (2, .one (.bx 2 0)), (5, vI (0 : Nat))] [(2, [.t (.sl 3 [])])] []) (fun k => k = 0) (fun k => 0) 0 (zac ?_) rfl ?_
 ·simp -implicitDefEqProofs only [go_sem]
 ·rintro k rfl
  simp -implicitDefEqProofs only [go_sem]
theorem ztm (l : List (Str × Tm)) (hl : l.length <= 1) (hw : ∀ p ∈ l, p.2.wt <= 1048576) (a : Tm) (ha : a.args.length <= 1048576) (H : ∀ x ∈ a.args, FC Tryz.prog 175 [.agg [sbS l], tmD x] [tmD (zb8 l x)]) : FC Tryz.prog 175 [.agg [sbS l], tmD a] [tmD (zb8 l a)] := by
 have hv := zfk l a
 have HV := zfi a.name
 cases hva : zav a.name
 ·rw [hva, if_neg (by simp)] at hv
  rw [hva] at HV
  rw [hv]
  have e1 : tmD (.mk a.name (a.args.map (zb8 l))) = .agg [.str a.name, .sl 2 (a.args.map fun x => tmC (zb8 l x))] := by unfold tmD; rw [zaa]; simp only [Tm.name, Tm.args, List.map_map, Function.comp_def]
  rw [e1]
  simp only [tmD, zaa a] at H ⊢
  unfold sbS at H ⊢
  generalize l.map bnC = L at H ⊢
  refine zah Tryz.call175 Tryz.func175 rfl (by kernel_rfl) (zat (by kernel_rfl)) ?_
  simp -implicitDefEqProofs only [go_sem, Tryz.results175]
  refine callF (HV) (by simp -implicitDefEqProofs only [go_sem]) ?_
  simp -implicitDefEqProofs only [go_sem]
  refine zae (fun k : Nat => hd [(2, .one (.bx 2 0)), (3, .one (.bx 3 0)), (4, .one (.bx 4 0)), (6, .one (.bx 6 0)), (7, vI k)] [(2, [.t (.sl 3 L)]), (3, [.t (.str a.name), .t (tmS a.args)]), (4, [.t (.str []), .nl 2]), (6, [.t (.str a.name), .ow 3000 0])] [(3000, ⟨true, 2, (a.args.take k).map fun x => tmC (zb8 l x), 0, true⟩)]) (fun k => k <= a.args.length) (fun k => a.args.length - k) 0 (zac ?_) (Nat.zero_le _) ?_
  ·simp -implicitDefEqProofs only [go_sem]
  ·intro k hk
   by_cases hlt : k < a.args.length
   ·have HC := H a.args[k] (List.getElem_mem hlt)
    have hmin : min k a.args.length <= 4294967295 := by omega
    simp only [zaa a.args[k], zaa (zb8 l a.args[k])] at HC
    simp -implicitDefEqProofs only [go_sem, hlt]
    refine drawn (by kernel_rfl) ?_
    simp -implicitDefEqProofs only [go_sem, zag, hlt, zaa a.args[k]]
    refine zaz (HC) (by simp -implicitDefEqProofs only [go_sem]) ?_
    simp -implicitDefEqProofs only [go_sem]
    refine zbl (by simp -implicitDefEqProofs only [go_sem]) ?_
    simp -implicitDefEqProofs only [go_sem]
    refine zh3 true (by simp -implicitDefEqProofs only [go_sem, ne_eq, List.length_map, List.length_take, hmin]) ?_
    simp -implicitDefEqProofs only [go_sem, ne_eq, List.length_map, List.length_take, hmin]
    refine ⟨by kernel_rfl, k + 1, hlt, by omega, zac ?_⟩
    simp -implicitDefEqProofs only [go_sem]
    rw [zao (by omega), List.take_succ_eq_append_getElem hlt, List.map_append, List.map_singleton]
    simp only [zaa]
    trivial
   ·have ht : a.args.take k = a.args := List.take_of_length_le (by omega)
    simp -implicitDefEqProofs only [go_sem, hlt, ht]
 ·rw [hva, if_pos rfl] at hv
  rw [hva] at HV
  rw [hv]
  match l, hl with
  | [], _ =>
   have HN := zo3 a.name
   simp only [List.find?_nil]
   have e1 : tmD (.mk a.name []) = .agg [.str a.name, .sl 2 []] := rfl
   have hS : sbS [] = .sl 3 [] := rfl
   rw [hS] at HN ⊢
   rw [e1]
   simp only [tmD, zaa a]
   refine zah Tryz.call175 Tryz.func175 rfl (by kernel_rfl) (zat (by kernel_rfl)) ?_
   simp -implicitDefEqProofs only [go_sem, Tryz.results175]
   refine callF (HV) (by simp -implicitDefEqProofs only [go_sem]) ?_
   simp -implicitDefEqProofs only [go_sem]
   refine callF (HN) (by simp -implicitDefEqProofs only [go_sem]) ?_
   simp -implicitDefEqProofs only [go_sem]
  | [(n, t)], _ =>
   have HO := zs8 n t a.name
   have HK := zp9 t (hw (n, t) (by simp))
   have hS : sbS [(n, t)] = .sl 3 [[.str n, .str t.name, .sl 2 (t.args.map tmC)]] := by unfold sbS; rw [List.map_singleton, zq5]
   rw [hS] at HO ⊢
   cases hn : n == a.name
   ·rw [hn] at HO
    simp only [List.find?_cons, hn, List.find?_nil]
    have e1 : tmD (.mk a.name []) = .agg [.str a.name, .sl 2 []] := rfl
    rw [e1]
    simp only [tmD, zaa a]
    refine zah Tryz.call175 Tryz.func175 rfl (by kernel_rfl) (zat (by kernel_rfl)) ?_
    simp -implicitDefEqProofs only [go_sem, Tryz.results175]
    refine callF (HV) (by simp -implicitDefEqProofs only [go_sem]) ?_
    simp -implicitDefEqProofs only [go_sem]
    refine callF (HO) (by simp -implicitDefEqProofs only [go_sem]) ?_
    simp -implicitDefEqProofs only [go_sem]
   ·rw [hn] at HO
    simp only [List.find?_cons, hn]
    simp only [tmD, zaa a, zaa t] at HK ⊢
    refine zah Tryz.call175 Tryz.func175 rfl (by kernel_rfl) (zat (by kernel_rfl)) ?_
    simp -implicitDefEqProofs only [go_sem, Tryz.results175]
    refine callF (HV) (by simp -implicitDefEqProofs only [go_sem]) ?_
    simp -implicitDefEqProofs only [go_sem]
    refine callF (HO) (by simp -implicitDefEqProofs only [go_sem]) ?_
    simp -implicitDefEqProofs only [go_sem]
    refine callF (HK) (by simp -implicitDefEqProofs only [go_sem]) ?_
    simp -implicitDefEqProofs only [go_sem]
theorem zve (l : List (Str × Tm)) (hl : l.length <= 1) (hw : ∀ p ∈ l, p.2.wt <= 1048576) : ∀ a : Tm, a.wt <= 1048576 -> FC Tryz.prog 175 [.agg [sbS l], tmD a] [tmD (zb8 l a)] :=
 za7 fun m xs ih hs => by
  obtain ⟨h1, h2⟩ := Tm.wt_args hs
  exact ztm l hl hw (.mk m xs) h1 fun x hx => ih x hx (h2 x hx)
end Go.Proofs.YtemnhgmgeijkcaaGreat
namespace Go.Proofs.YtemnhgmgeijkcaaGreat
set_option linter.unusedSimpArgs false
set_option linter.unusedVariables false
set_option linter.unusedSectionVars false
set_option maxRecDepth 4000
open Go.RowKit
def bnd (n : Str) (t : Tm) : List (Str × Tm) := if (t.name == n) = true then [] else [(n, t)]
def qh3 (ps : List Fm) : List Str := match ps with
 | p :: _ => zbd [] (vf p [])
 | [] => []
def zco (n : Str) (t : Tm) : Fm -> Fm × Bool := Fm.fold fun o a v ps rs =>
 if (o == 3) = true then (.mk o (zb8 (bnd n t) a) v [], (zb8 (bnd n t) a).atomOk)
 else if (isQ o && (v == n || !((qh3 ps).contains n))) = true then (.mk o a v ps, true)
 else if (isQ o && (zbd [] (voS t)).contains v) = true then (.mk o (.mk [] []) v [], false)
 else (.mk o (.mk [] []) v ((rs.takeWhile Prod.snd).map Prod.fst), rs.all Prod.snd)
theorem qfn {α β : Type} (p : β -> Bool) (f : α -> β) : ∀ xs : List α, (xs.map f).takeWhile p = (xs.takeWhile fun x => p (f x)).map f
 | [] => rfl
 | x :: xs => by
  simp only [List.map_cons, List.takeWhile_cons]
  cases p (f x)
  ·rfl
  ·simp only [if_true, List.map_cons, qfn p f xs]
theorem zpt (n : Str) (t : Tm) (f : Fm) : zco n t f = if (f.op == 3) = true then (.mk f.op (zb8 (bnd n t) f.atom) f.var [], (zb8 (bnd n t) f.atom).atomOk)
  else if (isQ f.op && (f.var == n || !((qh3 f.parts).contains n))) = true then (f, true)
  else if (isQ f.op && (zbd [] (voS t)).contains f.var) = true then (.mk f.op (.mk [] []) f.var [], false)
  else (.mk f.op (.mk [] []) f.var ((f.parts.takeWhile fun x => (zco n t x).2).map fun x => (zco n t x).1), f.parts.all fun x => (zco n t x).2) := by
 cases f with
 | mk o a v ps =>
  conv => lhs; unfold zco; rw [Fm.fold_eq]
  simp only [qfn, List.map_map, List.all_map]
  rfl
theorem qhu {f : Fm} (h : isQ f.op = true) (hf : f.forms = true) : ∃ p, f.parts = [p] /\ p.forms = true := by
 rw [Fm.forms_eq, Bool.and_eq_true] at hf
 have h1 := hf.1
 unfold Fm.here at h1
 have h2 : (f.op == 1 || f.op == 2) = false /\ (f.op == 3) = false /\ (f.op == 4) = false /\ zjc f.op = false := by
  have h8 : f.op = 8 \/ f.op = 9 := by unfold isQ at h; rw [Bool.or_eq_true, beq_iff_eq, beq_iff_eq] at h; exact h
  rcases h8 with e | e <;> rw [e] <;> decide
 rw [h2.1, h2.2.1, h2.2.2.1, h2.2.2.2, h] at h1
 simp only [Bool.false_eq_true, if_false, if_true, Bool.and_eq_true, decide_eq_true_eq] at h1
 obtain ⟨p, hp⟩ := List.length_eq_one_iff.1 h1.1.1
 exact ⟨p, hp, List.all_eq_true.1 hf.2 p (by rw [hp]; simp)⟩
theorem qhs (n : Str) (t : Tm) : (bnd n t).length <= 1 := by unfold bnd; split <;> simp
theorem bnd_wt (n : Str) (t : Tm) (ht : t.wt <= 1048576) : ∀ p ∈ bnd n t, p.2.wt <= 1048576 := by
 unfold bnd
 split
 ·simp
 ·intro p hp; simp at hp; rw [hp]; exact ht
set_option maxHeartbeats 2000000 in
theorem qbe (n : Str) (t : Tm) (ht : t.wt <= 1048576) (f : Fm) (hf : f.forms = true) (hw : f.wt <= 1048576) (hwa : (zb8 (bnd n t) f.atom).wt <= 1099511627776) (H : ∀ x ∈ f.parts, FC Tryz.prog 113 [fmD x, sD n, tmD t] [fmD (zco n t x).1, bD (zco n t x).2]) :
  FC Tryz.prog 113 [fmD f, sD n, tmD t] [fmD (zco n t f).1, bD (zco n t f).2] := by
 have hv := zpt n t f
 have hfl : f.parts.length <= 1048576 := by have := f.wt_eq; omega
 cases h3 : f.op == 3
 ·rw [h3, if_neg (by simp)] at hv
  cases hq : isQ f.op
  ·rw [hq, Bool.false_and, if_neg (by simp), Bool.false_and, if_neg (by simp)] at hv
   have hq8 : (f.op == 8) = false /\ (f.op == 9) = false := by unfold isQ at hq; rw [Bool.or_eq_false_iff] at hq; exact hq
   simp only [fmD, zab f, tmD, zaa t]
   refine zah Tryz.call113 Tryz.func113 rfl (by kernel_rfl) (zat (by kernel_rfl)) ?_
   simp -implicitDefEqProofs only [go_sem, Tryz.results113, h3, hq8.1, hq8.2]
   refine zae (fun k : Nat => hd [(1, vT (.str n)), (3, .one (.bx 3 0)), (5, .one (.bx 5 0)), (6, .one (.bx 6 0)), (8, .one (.bx 8 0)), (9, vI k)] [(3, [.t (.int .i64 f.op), .t (.str f.atom.name), .t (tmS f.atom.args), .t (.str f.var), .t (fmS f.parts)]), (5, [.t (.str t.name), .t (tmS t.args)]), (6, [.t (.int .i64 0), .t (.str []), .nl 2, .t (.str []), .nl 5]), (8, [.t (.int .i64 f.op), .t (.str []), .nl 2, .t (.str f.var), .ow 8000 0])] [(8000, ⟨true, 5, (f.parts.take k).map fun x => fmC (zco n t x).1, 0, true⟩)]) (fun k => k <= f.parts.length /\ ∀ x ∈ f.parts.take k, (zco n t x).2 = true) (fun k => f.parts.length - k) 0 (zac ?_) ⟨Nat.zero_le _, by simp⟩ ?_
   ·simp -implicitDefEqProofs only [go_sem]
   ·rintro k ⟨hk, hT⟩
    by_cases hlt : k < f.parts.length
    ·have HC := H f.parts[k] (List.getElem_mem hlt)
     have hmin : min k f.parts.length <= 4294967295 := by omega
     simp only [fmD, zab f.parts[k], zab (zco n t f.parts[k]).1, tmD, zaa t] at HC
     cases hk2 : (zco n t f.parts[k]).2
     ·rw [hk2] at HC
      have htw := (zc7 (p := fun x => (zco n t x).2) hk hT fun _ => hk2).1
      have hall : (f.parts.all fun x => (zco n t x).2) = false := by rw [List.all_eq_false]; exact ⟨_, List.getElem_mem hlt, by rw [hk2]; simp⟩
      rw [htw, hall] at hv
      rw [hv]
      simp -implicitDefEqProofs only [go_sem, hlt]
      refine drawn (by kernel_rfl) ?_
      simp -implicitDefEqProofs only [go_sem, zag, hlt, zab f.parts[k]]
      refine zaz (HC) (by simp -implicitDefEqProofs only [go_sem]) ?_
      simp -implicitDefEqProofs only [go_sem]
      refine ⟨by kernel_rfl, ?_⟩
      simp -implicitDefEqProofs only [go_sem, zcq, List.map_map, Function.comp_def]
      exact ⟨rfl, rfl⟩
     ·rw [hk2] at HC
      simp -implicitDefEqProofs only [go_sem, hlt]
      refine drawn (by kernel_rfl) ?_
      simp -implicitDefEqProofs only [go_sem, zag, hlt, zab f.parts[k]]
      refine zaz (HC) (by simp -implicitDefEqProofs only [go_sem]) ?_
      simp -implicitDefEqProofs only [go_sem]
      refine ⟨by kernel_rfl, ?_⟩
      refine za9 (by simp -implicitDefEqProofs only [go_sem]) ?_
      simp -implicitDefEqProofs only [go_sem]
      refine apD true (by simp -implicitDefEqProofs only [go_sem, ne_eq, List.length_map, List.length_take, hmin]) ?_
      simp -implicitDefEqProofs only [go_sem, ne_eq, List.length_map, List.length_take, hmin]
      refine ⟨k + 1, ⟨hlt, fun x hx => ?_⟩, by omega, zac ?_⟩
      ·rw [List.take_succ_eq_append_getElem hlt] at hx
       rcases List.mem_append.1 hx with hx | hx
       ·exact hT x hx
       ·rw [List.mem_singleton] at hx; subst hx; exact hk2
      ·simp -implicitDefEqProofs only [go_sem]
       rw [zao (by omega), List.take_succ_eq_append_getElem hlt, List.map_append, List.map_singleton]
       simp only [zab]
       trivial
    ·have htk : f.parts.take k = f.parts := List.take_of_length_le (by omega)
     rw [htk] at hT
     have hall : (f.parts.all fun x => (zco n t x).2) = true := List.all_eq_true.2 hT
     have htw : (f.parts.takeWhile fun x => (zco n t x).2) = f.parts := by
      have := (zc7 (l := f.parts) (p := fun x => (zco n t x).2) (k := f.parts.length) (Nat.le_refl _) (by rw [List.take_length]; exact hT) fun h => absurd h (Nat.lt_irrefl _)).1
      rw [this, List.take_length]
     rw [htw, hall] at hv
     rw [hv]
     simp -implicitDefEqProofs only [go_sem, hlt, htk, zcq, List.map_map, Function.comp_def]
     exact ⟨rfl, rfl⟩
  ·obtain ⟨q, hp, hpf⟩ := qhu hq hf
   have key : (f.op == 8) = true \/ ((f.op == 8) = false /\ (f.op == 9) = true) := by
    have hq8 := hq
    unfold isQ at hq8
    cases h8 : f.op == 8
    ·rw [h8, Bool.false_or] at hq8; exact Or.inr ⟨rfl, hq8⟩
    ·exact Or.inl rfl
   have HFr := zsg q hpf (by have := f.wt_eq; rw [hp] at this; simp only [List.map_cons, List.map_nil, List.sum_cons, List.sum_nil] at this; omega)
   have HOw := zqf f hw
   have hfr : qh3 f.parts = zbd [] (vf q []) := by rw [hp]; rfl
   rw [hfr] at hv
   generalize zbd [] (vf q []) = V at hv HFr
   have HIn := zrr V n
   have hvl := zkh t
   have HVs := zkn t (by omega) (by omega)
   generalize zbd [] (voS t) = TV at hv HVs
   have HIt := zrr TV f.var
   rw [hq, Bool.true_and, Bool.true_and] at hv
   have hp0 : f.parts.length = 1 := by rw [hp]; rfl
   have e0 : (List.map fmC f.parts).getD 0 [] = fmC q := by rw [hp]; rfl
   cases hvn : f.var == n
   ·rw [hvn, Bool.false_or] at hv
    cases hcn : V.contains n
    ·rw [hcn, if_pos (by simp)] at hv
     rw [hcn] at HIn
     rw [hv]
     simp only [fmD, zab f, tmD, zaa t, zab q] at HOw HFr ⊢
     rcases key with e8 | ⟨e8, e9⟩
     ·refine zah Tryz.call113 Tryz.func113 rfl (by kernel_rfl) (zat (by kernel_rfl)) ?_
      simp -implicitDefEqProofs only [go_sem, Tryz.results113, h3, e8, hvn, hp0, e0, zab q]
      refine callF (HFr) (by simp -implicitDefEqProofs only [go_sem]) ?_
      simp -implicitDefEqProofs only [go_sem]
      refine callF (HIn) (by simp -implicitDefEqProofs only [go_sem]) ?_
      simp -implicitDefEqProofs only [go_sem]
      refine callF (HOw) (by simp -implicitDefEqProofs only [go_sem]) ?_
      simp -implicitDefEqProofs only [go_sem]
     ·refine zah Tryz.call113 Tryz.func113 rfl (by kernel_rfl) (zat (by kernel_rfl)) ?_
      simp -implicitDefEqProofs only [go_sem, Tryz.results113, h3, e8, e9, hvn, hp0, e0, zab q]
      refine callF (HFr) (by simp -implicitDefEqProofs only [go_sem]) ?_
      simp -implicitDefEqProofs only [go_sem]
      refine callF (HIn) (by simp -implicitDefEqProofs only [go_sem]) ?_
      simp -implicitDefEqProofs only [go_sem]
      refine callF (HOw) (by simp -implicitDefEqProofs only [go_sem]) ?_
      simp -implicitDefEqProofs only [go_sem]
    ·rw [hcn, if_neg (by simp)] at hv
     rw [hcn] at HIn
     cases hti : TV.contains f.var
     ·rw [hti, if_neg (by simp)] at hv
      rw [hti] at HIt
      simp only [fmD, zab f, tmD, zaa t, zab q] at HVs HFr ⊢
      rcases key with e8 | ⟨e8, e9⟩
      ·refine zah Tryz.call113 Tryz.func113 rfl (by kernel_rfl) (zat (by kernel_rfl)) ?_
       simp -implicitDefEqProofs only [go_sem, Tryz.results113, h3, e8, hvn, hp0, e0, zab q]
       refine callF (HFr) (by simp -implicitDefEqProofs only [go_sem]) ?_
       simp -implicitDefEqProofs only [go_sem]
       refine callF (HIn) (by simp -implicitDefEqProofs only [go_sem]) ?_
       simp -implicitDefEqProofs only [go_sem]
       refine drawn (by kernel_rfl) ?_
       simp -implicitDefEqProofs only [go_sem]
       refine zaz (HVs) (by simp -implicitDefEqProofs only [go_sem]) ?_
       simp -implicitDefEqProofs only [go_sem]
       refine zaz (HIt) (by simp -implicitDefEqProofs only [go_sem]) ?_
       simp -implicitDefEqProofs only [go_sem]
       refine ⟨by kernel_rfl, ?_⟩
       refine zae (fun k : Nat => hd [(1, vT (.str n)), (3, .one (.bx 3 0)), (5, .one (.bx 5 0)), (6, .one (.bx 6 0)), (8, .one (.bx 8 0)), (9, vI k)] [(3, [.t (.int .i64 f.op), .t (.str f.atom.name), .t (tmS f.atom.args), .t (.str f.var), .t (fmS f.parts)]), (5, [.t (.str t.name), .t (tmS t.args)]), (6, [.t (.int .i64 0), .t (.str []), .nl 2, .t (.str []), .nl 5]), (8, [.t (.int .i64 f.op), .t (.str []), .nl 2, .t (.str f.var), .ow 8000 0])] [(8000, ⟨true, 5, (f.parts.take k).map fun x => fmC (zco n t x).1, 0, true⟩)]) (fun k => k <= f.parts.length /\ ∀ x ∈ f.parts.take k, (zco n t x).2 = true) (fun k => f.parts.length - k) 0 (zac ?_) ⟨Nat.zero_le _, by simp⟩ ?_
       ·simp -implicitDefEqProofs only [go_sem]
       ·rintro k ⟨hk, hT⟩
        by_cases hlt : k < f.parts.length
        ·have HC := H f.parts[k] (List.getElem_mem hlt)
         have hmin : min k f.parts.length <= 4294967295 := by omega
         simp only [fmD, zab f.parts[k], zab (zco n t f.parts[k]).1, tmD, zaa t] at HC
         cases hk2 : (zco n t f.parts[k]).2
         ·rw [hk2] at HC
          have htw := (zc7 (p := fun x => (zco n t x).2) hk hT fun _ => hk2).1
          have hall : (f.parts.all fun x => (zco n t x).2) = false := by rw [List.all_eq_false]; exact ⟨_, List.getElem_mem hlt, by rw [hk2]; simp⟩
          rw [htw, hall] at hv
          rw [hv]
          simp -implicitDefEqProofs only [go_sem, hlt]
          refine drawn (by kernel_rfl) ?_
          simp -implicitDefEqProofs only [go_sem, zag, hlt, zab f.parts[k]]
          refine zaz (HC) (by simp -implicitDefEqProofs only [go_sem]) ?_
          simp -implicitDefEqProofs only [go_sem]
          refine ⟨by kernel_rfl, ?_⟩
          simp -implicitDefEqProofs only [go_sem, zcq, List.map_map, Function.comp_def]
          exact ⟨rfl, rfl⟩
         ·rw [hk2] at HC
          simp -implicitDefEqProofs only [go_sem, hlt]
          refine drawn (by kernel_rfl) ?_
          simp -implicitDefEqProofs only [go_sem, zag, hlt, zab f.parts[k]]
          refine zaz (HC) (by simp -implicitDefEqProofs only [go_sem]) ?_
          simp -implicitDefEqProofs only [go_sem]
          refine ⟨by kernel_rfl, ?_⟩
          refine za9 (by simp -implicitDefEqProofs only [go_sem]) ?_
          simp -implicitDefEqProofs only [go_sem]
          refine apD true (by simp -implicitDefEqProofs only [go_sem, ne_eq, List.length_map, List.length_take, hmin]) ?_
          simp -implicitDefEqProofs only [go_sem, ne_eq, List.length_map, List.length_take, hmin]
          refine ⟨k + 1, ⟨hlt, fun x hx => ?_⟩, by omega, zac ?_⟩
          ·rw [List.take_succ_eq_append_getElem hlt] at hx
           rcases List.mem_append.1 hx with hx | hx
           ·exact hT x hx
           ·rw [List.mem_singleton] at hx; subst hx; exact hk2
          ·simp -implicitDefEqProofs only [go_sem]
           rw [zao (by omega), List.take_succ_eq_append_getElem hlt, List.map_append, List.map_singleton]
           simp only [zab]
           trivial
        ·have htk : f.parts.take k = f.parts := List.take_of_length_le (by omega)
         rw [htk] at hT
         have hall : (f.parts.all fun x => (zco n t x).2) = true := List.all_eq_true.2 hT
         have htw : (f.parts.takeWhile fun x => (zco n t x).2) = f.parts := by
          have := (zc7 (l := f.parts) (p := fun x => (zco n t x).2) (k := f.parts.length) (Nat.le_refl _) (by rw [List.take_length]; exact hT) fun h => absurd h (Nat.lt_irrefl _)).1
          rw [this, List.take_length]
         rw [htw, hall] at hv
         rw [hv]
         simp -implicitDefEqProofs only [go_sem, hlt, htk, zcq, List.map_map, Function.comp_def]
         exact ⟨rfl, rfl⟩
      ·refine zah Tryz.call113 Tryz.func113 rfl (by kernel_rfl) (zat (by kernel_rfl)) ?_
       simp -implicitDefEqProofs only [go_sem, Tryz.results113, h3, e8, e9, hvn, hp0, e0, zab q]
       refine callF (HFr) (by simp -implicitDefEqProofs only [go_sem]) ?_
       simp -implicitDefEqProofs only [go_sem]
       refine callF (HIn) (by simp -implicitDefEqProofs only [go_sem]) ?_
       simp -implicitDefEqProofs only [go_sem]
       refine drawn (by kernel_rfl) ?_
       simp -implicitDefEqProofs only [go_sem]
       refine zaz (HVs) (by simp -implicitDefEqProofs only [go_sem]) ?_
       simp -implicitDefEqProofs only [go_sem]
       refine zaz (HIt) (by simp -implicitDefEqProofs only [go_sem]) ?_
       simp -implicitDefEqProofs only [go_sem]
       refine ⟨by kernel_rfl, ?_⟩
       refine zae (fun k : Nat => hd [(1, vT (.str n)), (3, .one (.bx 3 0)), (5, .one (.bx 5 0)), (6, .one (.bx 6 0)), (8, .one (.bx 8 0)), (9, vI k)] [(3, [.t (.int .i64 f.op), .t (.str f.atom.name), .t (tmS f.atom.args), .t (.str f.var), .t (fmS f.parts)]), (5, [.t (.str t.name), .t (tmS t.args)]), (6, [.t (.int .i64 0), .t (.str []), .nl 2, .t (.str []), .nl 5]), (8, [.t (.int .i64 f.op), .t (.str []), .nl 2, .t (.str f.var), .ow 8000 0])] [(8000, ⟨true, 5, (f.parts.take k).map fun x => fmC (zco n t x).1, 0, true⟩)]) (fun k => k <= f.parts.length /\ ∀ x ∈ f.parts.take k, (zco n t x).2 = true) (fun k => f.parts.length - k) 0 (zac ?_) ⟨Nat.zero_le _, by simp⟩ ?_
       ·simp -implicitDefEqProofs only [go_sem]
       ·rintro k ⟨hk, hT⟩
        by_cases hlt : k < f.parts.length
        ·have HC := H f.parts[k] (List.getElem_mem hlt)
         have hmin : min k f.parts.length <= 4294967295 := by omega
         simp only [fmD, zab f.parts[k], zab (zco n t f.parts[k]).1, tmD, zaa t] at HC
         cases hk2 : (zco n t f.parts[k]).2
         ·rw [hk2] at HC
          have htw := (zc7 (p := fun x => (zco n t x).2) hk hT fun _ => hk2).1
          have hall : (f.parts.all fun x => (zco n t x).2) = false := by rw [List.all_eq_false]; exact ⟨_, List.getElem_mem hlt, by rw [hk2]; simp⟩
          rw [htw, hall] at hv
          rw [hv]
          simp -implicitDefEqProofs only [go_sem, hlt]
          refine drawn (by kernel_rfl) ?_
          simp -implicitDefEqProofs only [go_sem, zag, hlt, zab f.parts[k]]
          refine zaz (HC) (by simp -implicitDefEqProofs only [go_sem]) ?_
          simp -implicitDefEqProofs only [go_sem]
          refine ⟨by kernel_rfl, ?_⟩
          simp -implicitDefEqProofs only [go_sem, zcq, List.map_map, Function.comp_def]
          exact ⟨rfl, rfl⟩
         ·rw [hk2] at HC
          simp -implicitDefEqProofs only [go_sem, hlt]
          refine drawn (by kernel_rfl) ?_
          simp -implicitDefEqProofs only [go_sem, zag, hlt, zab f.parts[k]]
          refine zaz (HC) (by simp -implicitDefEqProofs only [go_sem]) ?_
          simp -implicitDefEqProofs only [go_sem]
          refine ⟨by kernel_rfl, ?_⟩
          refine za9 (by simp -implicitDefEqProofs only [go_sem]) ?_
          simp -implicitDefEqProofs only [go_sem]
          refine apD true (by simp -implicitDefEqProofs only [go_sem, ne_eq, List.length_map, List.length_take, hmin]) ?_
          simp -implicitDefEqProofs only [go_sem, ne_eq, List.length_map, List.length_take, hmin]
          refine ⟨k + 1, ⟨hlt, fun x hx => ?_⟩, by omega, zac ?_⟩
          ·rw [List.take_succ_eq_append_getElem hlt] at hx
           rcases List.mem_append.1 hx with hx | hx
           ·exact hT x hx
           ·rw [List.mem_singleton] at hx; subst hx; exact hk2
          ·simp -implicitDefEqProofs only [go_sem]
           rw [zao (by omega), List.take_succ_eq_append_getElem hlt, List.map_append, List.map_singleton]
           simp only [zab]
           trivial
        ·have htk : f.parts.take k = f.parts := List.take_of_length_le (by omega)
         rw [htk] at hT
         have hall : (f.parts.all fun x => (zco n t x).2) = true := List.all_eq_true.2 hT
         have htw : (f.parts.takeWhile fun x => (zco n t x).2) = f.parts := by
          have := (zc7 (l := f.parts) (p := fun x => (zco n t x).2) (k := f.parts.length) (Nat.le_refl _) (by rw [List.take_length]; exact hT) fun h => absurd h (Nat.lt_irrefl _)).1
          rw [this, List.take_length]
         rw [htw, hall] at hv
         rw [hv]
         simp -implicitDefEqProofs only [go_sem, hlt, htk, zcq, List.map_map, Function.comp_def]
         exact ⟨rfl, rfl⟩
     ·rw [hti, if_pos rfl] at hv
      rw [hti] at HIt
      rw [hv]
      have e5 : fmD (.mk f.op (.mk [] []) f.var []) = .agg [.int .i64 f.op, .str [], .sl 2 [], .str f.var, .sl 5 []] := by unfold fmD; rw [zab]; rfl
      rw [e5]
      simp only [fmD, zab f, tmD, zaa t, zab q] at HVs HFr ⊢
      rcases key with e8 | ⟨e8, e9⟩
      ·refine zah Tryz.call113 Tryz.func113 rfl (by kernel_rfl) (zat (by kernel_rfl)) ?_
       simp -implicitDefEqProofs only [go_sem, Tryz.results113, h3, e8, hvn, hp0, e0, zab q]
       refine callF (HFr) (by simp -implicitDefEqProofs only [go_sem]) ?_
       simp -implicitDefEqProofs only [go_sem]
       refine callF (HIn) (by simp -implicitDefEqProofs only [go_sem]) ?_
       simp -implicitDefEqProofs only [go_sem]
       refine drawn (by kernel_rfl) ?_
       simp -implicitDefEqProofs only [go_sem]
       refine zaz (HVs) (by simp -implicitDefEqProofs only [go_sem]) ?_
       simp -implicitDefEqProofs only [go_sem]
       refine zaz (HIt) (by simp -implicitDefEqProofs only [go_sem]) ?_
       simp -implicitDefEqProofs only [go_sem]
       kernel_rfl
      ·refine zah Tryz.call113 Tryz.func113 rfl (by kernel_rfl) (zat (by kernel_rfl)) ?_
       simp -implicitDefEqProofs only [go_sem, Tryz.results113, h3, e8, e9, hvn, hp0, e0, zab q]
       refine callF (HFr) (by simp -implicitDefEqProofs only [go_sem]) ?_
       simp -implicitDefEqProofs only [go_sem]
       refine callF (HIn) (by simp -implicitDefEqProofs only [go_sem]) ?_
       simp -implicitDefEqProofs only [go_sem]
       refine drawn (by kernel_rfl) ?_
       simp -implicitDefEqProofs only [go_sem]
       refine zaz (HVs) (by simp -implicitDefEqProofs only [go_sem]) ?_
       simp -implicitDefEqProofs only [go_sem]
       refine zaz (HIt) (by simp -implicitDefEqProofs only [go_sem]) ?_
       simp -implicitDefEqProofs only [go_sem]
       kernel_rfl
   ·rw [hvn, Bool.true_or, if_pos rfl] at hv
    rw [hv]
    simp only [fmD, zab f, tmD, zaa t] at HOw ⊢
    rcases key with e8 | ⟨e8, e9⟩
    ·refine zah Tryz.call113 Tryz.func113 rfl (by kernel_rfl) (zat (by kernel_rfl)) ?_
     simp -implicitDefEqProofs only [go_sem, Tryz.results113, h3, e8, hvn]
     refine callF (HOw) (by simp -implicitDefEqProofs only [go_sem]) ?_
     simp -implicitDefEqProofs only [go_sem]
    ·refine zah Tryz.call113 Tryz.func113 rfl (by kernel_rfl) (zat (by kernel_rfl)) ?_
     simp -implicitDefEqProofs only [go_sem, Tryz.results113, h3, e8, e9, hvn]
     refine callF (HOw) (by simp -implicitDefEqProofs only [go_sem]) ?_
     simp -implicitDefEqProofs only [go_sem]
 ·rw [h3, if_pos rfl] at hv
  have HA := zve (bnd n t) (qhs n t) (bnd_wt n t ht) f.atom (by have := zko f; omega)
  rw [hv]
  generalize zb8 (bnd n t) f.atom = R at HA hwa ⊢
  have HO := zsx R hwa
  cases hn : t.name == n
  ·have e0 : bnd n t = [(n, t)] := by unfold bnd; rw [hn, if_neg (by simp)]
   have HP := zyf n t ht hn
   have hS0 : sbS [] = .sl 3 [] := rfl
   rw [e0] at HA
   generalize [(n, t)] = B at HA HP
   rw [hS0] at HP
   unfold sbS at HP HA
   generalize B.map bnC = L at HA HP
   simp only [fmD, zab f, tmD, zaa t, zaa f.atom, zaa R, zcq, List.map_nil] at HA HP HO ⊢
   refine zah Tryz.call113 Tryz.func113 rfl (by kernel_rfl) (zat (by kernel_rfl)) ?_
   simp -implicitDefEqProofs only [go_sem, Tryz.results113, h3]
   refine drawn (by kernel_rfl) ?_
   simp -implicitDefEqProofs only [go_sem]
   refine zaz (HP) (by simp -implicitDefEqProofs only [go_sem]) ?_
   simp -implicitDefEqProofs only [go_sem]
   refine zaz (HA) (by simp -implicitDefEqProofs only [go_sem]) ?_
   simp -implicitDefEqProofs only [go_sem]
   refine ⟨by kernel_rfl, ?_⟩
   refine drawn (by kernel_rfl) ?_
   simp -implicitDefEqProofs only [go_sem]
   refine zaz (HO) (by simp -implicitDefEqProofs only [go_sem]) ?_
   simp -implicitDefEqProofs only [go_sem]
   kernel_rfl
  ·have e0 : bnd n t = [] := by unfold bnd; rw [hn, if_pos rfl]
   have HP := ztb n t hn
   have hS0 : sbS [] = .sl 3 [] := rfl
   rw [e0] at HA
   rw [hS0] at HP HA
   simp only [fmD, zab f, tmD, zaa t, zaa f.atom, zaa R, zcq, List.map_nil] at HA HP HO ⊢
   refine zah Tryz.call113 Tryz.func113 rfl (by kernel_rfl) (zat (by kernel_rfl)) ?_
   simp -implicitDefEqProofs only [go_sem, Tryz.results113, h3]
   refine drawn (by kernel_rfl) ?_
   simp -implicitDefEqProofs only [go_sem]
   refine dCallR HP (by simp -implicitDefEqProofs only [go_sem]) ?_
   simp -implicitDefEqProofs only [go_sem]
   refine zaz (HA) (by simp -implicitDefEqProofs only [go_sem]) ?_
   simp -implicitDefEqProofs only [go_sem]
   refine ⟨by kernel_rfl, ?_⟩
   refine drawn (by kernel_rfl) ?_
   simp -implicitDefEqProofs only [go_sem]
   refine zaz (HO) (by simp -implicitDefEqProofs only [go_sem]) ?_
   simp -implicitDefEqProofs only [go_sem]
   kernel_rfl
end Go.Proofs.YtemnhgmgeijkcaaGreat
namespace Go.Proofs.YtemnhgmgeijkcaaGreat
set_option linter.unusedSimpArgs false
set_option linter.unusedVariables false
set_option linter.unusedSectionVars false
set_option maxRecDepth 4000
open Go.RowKit
theorem zy6 (l : List (Str × Tm)) (W : Nat) (hW : ∀ p ∈ l, p.2.wt <= W) : ∀ a : Tm, (zb8 l a).wt <= a.wt + a.nodes * W := za7 fun m xs ih => by
 rw [zfk, Tm.nodes_eq]
 show (if zav m = true then (match l.find? fun (p : Str × Tm) => p.1 == m with | some p => p.2 | none => .mk m []) else .mk m (xs.map (zb8 l))).wt <= (Tm.mk m xs).wt + (1 + (xs.map Tm.nodes).sum) * W
 have hs : (xs.map fun x => (zb8 l x).wt).sum <= (xs.map Tm.wt).sum + (xs.map Tm.nodes).sum * W := by
  revert ih
  induction xs with
  | nil => simp
  | cons x xs ih2 =>
   intro ih
   have h1 := ih x (by simp)
   have h2 := ih2 fun y hy => ih y (by simp [hy])
   simp only [List.map_cons, List.sum_cons, Nat.add_mul]
   omega
 have h0 := Tm.wt_eq (.mk m xs)
 have h0 : (Tm.mk m xs).wt = m.length + xs.length + (xs.map Tm.wt).sum := h0
 rw [Nat.add_mul, Nat.one_mul]
 split
 ·split
  ·rename_i p hp
   have := hW p (List.mem_of_find?_eq_some hp)
   omega
  ·have h1 := Tm.wt_eq (.mk m [])
   have h1 : (Tm.mk m []).wt = m.length + 0 + 0 := h1
   omega
 ·have h1 := Tm.wt_eq (.mk m (xs.map (zb8 l)))
  have h1 : (Tm.mk m (xs.map (zb8 l))).wt = m.length + (xs.map (zb8 l)).length + ((xs.map (zb8 l)).map Tm.wt).sum := h1
  rw [List.length_map, List.map_map] at h1
  have h2 : (xs.map (Tm.wt ∘ zb8 l)).sum = (xs.map fun x => (zb8 l x).wt).sum := rfl
  omega
theorem qhi (n : Str) (t : Tm) : ∀ p ∈ bnd n t, p.2.wt <= t.wt := by
 unfold bnd
 split
 ·simp
 ·intro p hp; simp at hp; rw [hp]; exact Nat.le_refl _
theorem qhx (n : Str) (t : Tm) (ht : t.wt <= 1048576) : ∀ f : Fm, f.forms = true -> f.wt <= 1048576 -> f.wt + (1 + f.wt) * t.wt <= 1099511627776 -> FC Tryz.prog 113 [fmD f, sD n, tmD t] [fmD (zco n t f).1, bD (zco n t f).2] :=
 za6 fun o a v ps ih hf hw hb => by
  refine qbe n t ht (.mk o a v ps) hf hw ?_ fun x hx => ih x hx (by rw [Fm.forms_eq, Bool.and_eq_true] at hf; exact List.all_eq_true.1 hf.2 x hx) (Nat.le_trans (zbm (a := .mk o a v ps) hx) hw) ?_
  ·have h1 := zy6 (bnd n t) t.wt (qhi n t) a
   have h2 := zfa a
   have h3 : a.wt <= (Fm.mk o a v ps).wt := zko (.mk o a v ps)
   have h4 : a.nodes * t.wt <= (1 + (Fm.mk o a v ps).wt) * t.wt := Nat.mul_le_mul_right _ (by omega)
   show (zb8 (bnd n t) a).wt <= _
   omega
  ·have h3 := zbm (a := .mk o a v ps) hx
   have h4 : (1 + x.wt) * t.wt <= (1 + (Fm.mk o a v ps).wt) * t.wt := Nat.mul_le_mul_right _ (by omega)
   omega
end Go.Proofs.YtemnhgmgeijkcaaGreat
namespace Go.Proofs.YtemnhgmgeijkcaaGreat
set_option linter.unusedSimpArgs false
set_option linter.unusedVariables false
set_option linter.unusedSectionVars false
set_option maxRecDepth 4000
open Go.RowKit
attribute [local go_sem] Oper.semAt_some
set_option maxHeartbeats 1000000 in
theorem zi6 : zxy Tryz.prog 129 191 := by
 refine ⟨Tryz.call129, fun a len cap w => ?_⟩
 refine callsIn_wide.1 (callsIn_of_wp (n := 0) Tryz.func129 rfl trivial ?_ rfl)
 simp only [Tryz.ntmps129, List.size_toArray, List.length_cons, List.length_nil, Nat.reduceAdd, Nat.reduceSub, Array.replicate_succ, Array.replicate_zero, List.push_toArray, List.append_toArray, List.nil_append, List.cons_append]
 gi_wp2
 go_ret
 exact ⟨_, rfl, rfl⟩
set_option maxRecDepth 100000 in
set_option maxHeartbeats 2000000 in
theorem zks : zqt Tryz.prog 191 true 5 := by
 intro l Bs n W J hmax hlen0 hrd h0
 obtain ⟨ao, cap, hBs⟩ := hlen0 W h0
 have hmax : n <= 9223372036854775807 := hmax
 have hw1 : IntKind.i64.wrap ((n : Int) - 1) = (n : Int) - 1 := by rw [IntKind.wrap_i64]; omega
 have hro : (FR none).round = none := rfl
 refine callsIn_of_wp Tryz.func191 rfl trivial ?_ rfl
 simp only [Tryz.ntmps191, List.size_toArray, List.length_cons, List.length_nil, Nat.reduceAdd, Nat.reduceSub, Array.replicate_succ, Array.replicate_zero, List.push_toArray, List.append_toArray, List.nil_append, List.cons_append]
 gi_wp2
 gi_loopw [3] (fun i wr => ∃ k : Nat, k <= n /\ i = .int .i64 ((n : Int) - 1 - k) /\ J k wr) (fun i _ => (intOf i + 1).toNat)
 case atStart => exact ⟨0, Nat.zero_le _, by simp, h0⟩
 case round =>
  obtain ⟨k, hk, rfl, hJs⟩ := hrel
  by_cases hlt : k < n
  ·obtain ⟨m, hm⟩ : ∃ m, n - 1 - k = m := ⟨_, rfl⟩
   have hml : m < n := by omega
   obtain ⟨b, o, cap', r, hb, hr, hcell, fn, tmps, assign, body, hy, hR⟩ := hrd k wr hJs hlt
   match r, hr, hcell, hy with
   | [v0, v1, v2, v3, v4], _, hcell, hy =>
    rw [hm] at hcell hy
    rw [show (n : Int) - 1 - k = (m : Int) by omega]
    have e1 : wr.cell? ⟨b, o + m * 5, none⟩ = _ := hcell 0 v0 rfl
    have e2 : wr.cell? ⟨b, o + m * 5 + 1, none⟩ = _ := hcell 1 v1 rfl
    have e3 : wr.cell? ⟨b, o + m * 5 + 2, none⟩ = _ := hcell 2 v2 rfl
    have e4 : wr.cell? ⟨b, o + m * 5 + 3, none⟩ = _ := hcell 3 v3 rfl
    have e5 : wr.cell? ⟨b, o + m * 5 + 4, none⟩ = _ := hcell 4 v4 rfl
    simp only [agv, if_true] at hy
    have hw2 : IntKind.i64.wrap ((m : Int) - 1) = (m : Int) - 1 := by rw [IntKind.wrap_i64]; omega
    gi_wp2
    refine hR.mono ?_
    rintro e W3 ⟨rfl, hJ3⟩
    gi_wp2
    go_roundw
    case rel => exact ⟨k + 1, by omega, by go_num, hJ3⟩
    case measure => simp [intOf]
  ·obtain rfl : k = n := by omega
   gi_wp2
   go_end0
   exact ⟨⟨_, rfl⟩, hJs⟩
end Go.Proofs.YtemnhgmgeijkcaaGreat
namespace Go.Proofs.YtemnhgmgeijkcaaGreat
set_option linter.unusedSimpArgs false
set_option linter.unusedVariables false
set_option linter.unusedSectionVars false
set_option maxRecDepth 4000
open Go.RowKit
structure OF where
 op : Int
 name : Str
 a : Option Addr × Nat × Nat
 var : Str
 p : Option Addr × Nat × Nat
def ofC (x : OF) : List T := [.int .i64 x.op, .str x.name, .vs x.a.1 x.a.2.1 x.a.2.2, .str x.var, .vs x.p.1 x.p.2.1 x.p.2.2]
theorem zdw (x : OF) : ofC x = [.int .i64 x.op, .str x.name, .vs x.a.1 x.a.2.1 x.a.2.2, .str x.var, .vs x.p.1 x.p.2.1 x.p.2.2] := rfl
def jnC (op : Int) : List OF -> List T
 | [] => []
 | [x] => ofC x
 | x :: xs => [.int .i64 op, .str [], .sl 2 [], .str [], .sl 5 [ofC x, jnC op xs]]
theorem zk8 (op : Int) (x : OF) {xs : List OF} (h : xs ≠ []) : jnC op (x :: xs) = [.int .i64 op, .str [], .sl 2 [], .str [], .sl 5 [ofC x, jnC op xs]] := by
 cases xs with
 | nil => exact absurd rfl h
 | cons y ys => rfl
theorem zzt (op : Int) (x y : OF) : FC Tryz.prog 130 [iD op, .agg (ofC x), .agg (ofC y)] [.agg [.int .i64 op, .str [], .sl 2 [], .str [], .sl 5 [ofC x, ofC y]]] := by
 simp only [zdw]
 refine zah Tryz.call130 Tryz.func130 rfl (by kernel_rfl) (zat (by kernel_rfl)) ?_
 simp -implicitDefEqProofs only [go_sem, Tryz.results130]
 refine za9 (by simp -implicitDefEqProofs only [go_sem]) ?_
 simp -implicitDefEqProofs only [go_sem]
theorem zv0 (op o2 : Int) (x : OF) (R : List (List T)) : GC Tryz.prog 130 [(false, iD op), (false, .agg (ofC x)), (true, .agg [.int .i64 o2, .str [], .sl 2 [], .str [], .sl 5 R])] [.agg [.int .i64 op, .str [], .sl 2 [], .str [], .sl 5 [ofC x, [.int .i64 o2, .str [], .sl 2 [], .str [], .sl 5 R]]]] := by
 simp only [zdw]
 refine zyw Tryz.call130 Tryz.func130 rfl (by kernel_rfl) (by simp only [List.length_cons, List.length_nil, Tryz.ntmps130]; omega) (by simp [zb6, T.isPin]) ?_
 simp -implicitDefEqProofs only [go_sem, Tryz.results130]
 refine za9 (by simp -implicitDefEqProofs only [go_sem]) ?_
 simp -implicitDefEqProofs only [go_sem]
def cbH (op : Int) (xs : List OF) (z : OF) : Nat -> St
 | 0 => hd [(3, .one (.bx 3 0)), (6, .one (.bx 6 0)), (7, .one (.bx 7 0)), (25, .one (.fn 191 [25]))]
   [(3, [.t (.int .i64 op)]), (6, [.t (.int .i64 0), .t (.str []), .nl 2, .t (.str []), .nl 5]), (7, (ofC (xs.getD (xs.length - 1) z)).map .t), (25, [.rn (.sl 5 ((xs.map ofC).take (xs.length - 1)))])] []
 | k + 1 => hd [(3, .one (.bx 3 0)), (6, .one (.bx 6 0)), (7, .one (.bx 7 0)), (25, .one (.fn 191 [25]))]
   [(3, [.t (.int .i64 op)]), (6, [.t (.int .i64 0), .t (.str []), .nl 2, .t (.str []), .nl 5]), (7, [.t (.int .i64 op), .t (.str []), .ow 994 0, .t (.str []), .ow 996 0]), (25, [.rn (.sl 5 ((xs.map ofC).take (xs.length - 1)))])]
   [(994, ⟨true, 2, [], 0, true⟩), (996, ⟨true, 5, [ofC (xs.getD (xs.length - 1 - 1 - k) z), jnC op (xs.drop (xs.length - 1 - k))], 0, true⟩)]
set_option maxHeartbeats 1000000 in
theorem zj0 (op : Int) (xs : List OF) (z : OF) : FC Tryz.prog 71 [iD op, .one (.sl 5 (xs.map ofC)), .agg (ofC z)] [.agg (if xs = [] then ofC z else jnC op xs)] := by
 cases hx : xs with
 | nil =>
  simp only [if_true, List.map_nil, ofC]
  refine zvi Tryz.call71 Tryz.func71 rfl rfl (by kernel_rfl) (zat (by kernel_rfl)) ?_
  simp -implicitDefEqProofs only [go_sem, Tryz.results71]
 | cons x0 r0 =>
  rw [<- hx]
  have hne : xs ≠ [] := by rw [hx]; simp
  have hn : 0 < xs.length := by rw [hx]; simp
  refine zc0 (fun hw => ?_) Tryz.call71
  have hl : xs.length <= 9223372036854775807 := by simpa [zfj, wfT] using hw.2.1.1
  clear hw hx
  have e0 : ((xs.length : Int) == 0) = false := by simp; omega
  have e1 : IntKind.i64.wrap ((xs.length : Int) - 1) = ((xs.length - 1 : Nat) : Int) := by rw [zbk (by omega) (by omega)]; omega
  have hi : xs.length - 1 < xs.length := by omega
  rw [if_neg hne]
  simp only [ofC]
  refine zvi Tryz.call71 Tryz.func71 rfl rfl (by kernel_rfl) (zat (by kernel_rfl)) ?_
  simp -implicitDefEqProofs only [go_sem, Tryz.results71, e0, e1, hi, zag, List.length_map, zdw]
  refine ⟨by omega, ?_⟩
  refine callB (sz := 5) (rows := (xs.map ofC).take (xs.length - 1)) zi6 (by simp -implicitDefEqProofs only [go_sem]) ?_
  simp -implicitDefEqProofs only [go_sem]
  have hlen : ((xs.map ofC).take (xs.length - 1)).length = xs.length - 1 := by simp
  have hlast : xs.getD (xs.length - 1) z = xs[xs.length - 1] := by simp [hi]
  refine loopB zks Tryz.call191 25 (cbH op xs z) ((xs.map ofC).take (xs.length - 1)) (by kernel_rfl) rfl (fun k => by cases k <;> exact ⟨rfl, rfl⟩) (fun k => by cases k <;> exact ⟨rfl, rfl, rfl, rfl, rfl, rfl, rfl, trivial⟩) (zac (by simp -implicitDefEqProofs only [go_sem, hlast, zdw])) ?_ ?_
  ·intro k hk
   rw [hlen] at hk ⊢
   have hrow : ((xs.map ofC).take (xs.length - 1)).getD (xs.length - 1 - 1 - k) [] = ofC (xs.getD (xs.length - 1 - 1 - k) z) := by
    have h1 : xs.length - 1 - 1 - k < xs.length - 1 := by omega
    have h2 : xs.length - 1 - 1 - k < xs.length := by omega
    simp [List.getD, List.getElem?_take, h1, h2]
   rw [hrow]
   have hd1 : xs.drop (xs.length - 1) = [xs.getD (xs.length - 1) z] := by
    rw [List.drop_eq_getElem_cons hi, List.drop_of_length_le (by omega), hlast]
   cases k with
   | zero =>
    simp only [cbH, qfu, if_true, Nat.sub_zero]
    simp -implicitDefEqProofs only [go_sem, zdw, qfu, T.toN]
    refine callF (zzt op (xs.getD (xs.length - 1 - 1) z) (xs.getD (xs.length - 1) z)) (by simp -implicitDefEqProofs only [go_sem, zdw]) ?_
    simp -implicitDefEqProofs only [go_sem, zdw]
    refine zac ?_
    rw [hd1]
    simp -implicitDefEqProofs only [go_sem, jnC, zdw]
   | succ k =>
    have hdk : xs.drop (xs.length - 1 - (k + 1)) = xs.getD (xs.length - 1 - 1 - k) z :: xs.drop (xs.length - 1 - k) := by
     have h1 : xs.length - 1 - (k + 1) < xs.length := by omega
     rw [List.drop_eq_getElem_cons h1, show xs.length - 1 - (k + 1) + 1 = xs.length - 1 - k by omega]
     congr 1
     rw [show xs.length - 1 - 1 - k = xs.length - 1 - (k + 1) by omega]
     simp [h1]
    have hdn : xs.drop (xs.length - 1 - k) ≠ [] := by
     intro e
     have := congrArg List.length e
     simp at this; omega
    simp only [cbH, qfu, if_true]
    rw [hdk, zk8 op _ hdn]
    generalize xs.getD (xs.length - 1 - 1 - (k + 1)) z = x
    generalize xs.getD (xs.length - 1 - 1 - k) z = y
    generalize jnC op (xs.drop (xs.length - 1 - k)) = J
    simp -implicitDefEqProofs only [go_sem, zdw x, T.toN]
    refine callG [(28, vI op), (29, .agg ((ofC x).map .t)), (30, .agg [.t (.int .i64 op), .t (.str []), .ow 994 0, .t (.str []), .ow 996 0])]
     [(3, .one (.bx 3 0)), (6, .one (.bx 6 0)), (7, .one (.bx 7 0)), (25, .one (.fn 191 [25]))] []
     [(3, [.t (.int .i64 op)]), (6, [.t (.int .i64 0), .t (.str []), .nl 2, .t (.str []), .nl 5]), (7, [.any, .any, .any, .any, .any]), (25, [.rn (.sl 5 ((xs.map ofC).take (xs.length - 1)))])]
     [(994, ⟨true, 2, [], 0, true⟩), (996, ⟨true, 5, [ofC y, J], 0, true⟩)] [] [] (zv0 op op x [ofC y, J]) (by simp -implicitDefEqProofs only [go_sem, zdw x]) (by simp -implicitDefEqProofs only [go_sem]) (by simp -implicitDefEqProofs only [go_sem, zdw x]) (by simp -implicitDefEqProofs only [go_sem]) ?_
    simp -implicitDefEqProofs only [go_sem]
    refine zac ?_
    simp -implicitDefEqProofs only [go_sem, zdw x]
  ·rw [hlen]
   cases hm : xs.length - 1 with
   | zero =>
    have hx1 : xs = [xs.getD (xs.length - 1) z] := by
     rw [hlast]
     have : xs.length = 1 := by omega
     match xs, this with
     | [x], _ => rfl
    rw [hm] at hx1
    rw [hx1]
    generalize xs.getD 0 z = x
    show ex _ _ _ _ (cbH op [x] z 0)
    simp only [cbH]
    simp -implicitDefEqProofs only [go_sem, jnC, zdw, Tryz.results71]
   | succ m =>
    have h0 : 0 < xs.length := hn
    have hx2 : jnC op xs = [.int .i64 op, .str [], .sl 2 [], .str [], .sl 5 [ofC (xs.getD 0 z), jnC op (xs.drop 1)]] := by
     match xs, hm with
     | x :: r, hm =>
      rw [zk8 op x (by intro e; rw [e] at hm; simp at hm)]
      rfl
    rw [hx2]
    simp only [cbH]
    rw [show xs.length - 1 - 1 - m = 0 by omega, show xs.length - 1 - m = 1 by omega]
    generalize xs.getD 0 z = x
    generalize jnC op (xs.drop 1) = J
    simp -implicitDefEqProofs only [go_sem, Tryz.results71]
end Go.Proofs.YtemnhgmgeijkcaaGreat
namespace Go.Proofs.YtemnhgmgeijkcaaGreat
set_option linter.unusedSimpArgs false
set_option linter.unusedVariables false
set_option linter.unusedSectionVars false
set_option maxRecDepth 4000
open Go.RowKit
def zcs (op : Int) : List Fm -> Fm -> Fm
 | [], z => z
 | [x], _ => x
 | x :: xs, z => mkF op [x, zcs op xs z]
theorem zd3 (op : Int) (x : Fm) {xs : List Fm} (h : xs ≠ []) (z : Fm) : zcs op (x :: xs) z = mkF op [x, zcs op xs z] := by
 cases xs with
 | nil => exact absurd rfl h
 | cons y ys => rfl
theorem of_fm {w : World} {x : Fm} {vs : List Value} {f : List Nat} (h : zas w (fmC x) vs f) : ∃ y : OF, (∀ A : Nat -> Prop, zad w A (ofC y) vs) /\ ∀ w' : World, (∀ b ∈ f, w'.heap[b]? = w.heap[b]?) -> zib w' (ofC y) (fmC x) f := by
 rw [zab] at h ⊢
 obtain ⟨v1, _, f1, _, rfl, rfl, h1, h⟩ := h
 obtain ⟨v2, _, f2, _, rfl, rfl, h2, h⟩ := h
 obtain ⟨v3, _, f3, _, rfl, rfl, h3, h⟩ := h
 obtain ⟨v4, _, f4, _, rfl, rfl, h4, h⟩ := h
 obtain ⟨v5, _, f5, _, rfl, rfl, h5, h⟩ := h
 obtain ⟨rfl, rfl⟩ := h
 unfold zax at h1 h2 h4
 obtain ⟨rfl, n1, n2, rfl⟩ := h1
 obtain ⟨rfl, n3, rfl⟩ := h2
 obtain ⟨rfl, n4, rfl⟩ := h4
 have g3 := h3
 have g5 := h5
 unfold zax at g3 g5
 obtain ⟨a3, c3, rfl, _⟩ := g3
 obtain ⟨a5, c5, rfl, _⟩ := g5
 refine ⟨⟨x.op, x.atom.name, (a3, (x.atom.args.map tmC).length, c3), x.var, (a5, (x.parts.map fmC).length, c5)⟩, fun A => ?_, fun w' hs => ?_⟩
 ·unfold ofC
  simp only [zad, zal]
  exact ⟨_, _, rfl, ⟨rfl, n1, n2⟩, _, _, rfl, ⟨rfl, n3⟩, _, _, rfl, rfl, _, _, rfl, ⟨rfl, n4⟩, _, _, rfl, rfl, rfl⟩
 ·unfold ofC
  simp only [zib, GrT]
  refine ⟨_, _, [], _, rfl, rfl, ⟨rfl, rfl⟩, _, _, [], _, rfl, rfl, ⟨rfl, rfl⟩, _, _, f3, _, rfl, rfl, zax.keep _ _ _ h3 fun b hb => hs b (by simp [hb]), _, _, [], _, rfl, rfl, ⟨rfl, rfl⟩, _, _, f5, _, rfl, rfl, zax.keep _ _ _ h5 fun b hb => hs b (by simp [hb]), rfl, rfl⟩
theorem qfr {w : World} {cells : Array Value} {b : Nat} {ty : TypeId} (hc : w.heap[b]? = some (.cells cells ty (0, 0))) : ∀ {xs : List Fm} {o : Nat} {fps : List Nat}, zak w cells o 5 (xs.map fmC) fps →
  ∃ ys : List OF, ys.length = xs.length /\ (∀ A : Nat -> Prop, zam w A b o 5 (ys.map ofC)) /\ ∀ w' : World, (∀ b ∈ fps, w'.heap[b]? = w.heap[b]?) -> zb1 w' (ys.map ofC) (xs.map fmC) fps
 | [], o, fps, h => by
  rw [List.map_nil] at h
  unfold zak at h
  subst h
  exact ⟨[], rfl, fun A => by rw [List.map_nil]; unfold zam; trivial, fun w' _ => by rw [List.map_nil, List.map_nil]; unfold zb1; exact ⟨rfl, rfl⟩⟩
 | x :: xs, o, fps, h => by
  rw [List.map_cons] at h
  unfold zak at h
  obtain ⟨h1, f1, f2, rfl, h2, h3⟩ := h
  obtain ⟨vs, k1, k2, k3⟩ := h2.vals
  obtain ⟨y, l1, l2⟩ := of_fm k3
  obtain ⟨ys, m1, m2, m3⟩ := qfr hc h3
  refine ⟨y :: ys, by simp [m1], fun A => ?_, fun w' hs => ?_⟩
  ·rw [List.map_cons]
   unfold zam
   refine ⟨rfl, za5.mk fun j c hj => ?_, m2 A⟩
   obtain ⟨v, q1, q2⟩ := (l1 A).at j c hj
   exact ⟨v, by simp [World.cell?, hc, k2 j v q1], q2⟩
  ·rw [List.map_cons, List.map_cons]
   unfold zb1
   exact ⟨_, _, f1, f2, rfl, rfl, l2 w' fun b hb => hs b (by simp [hb]), m3 w' fun b hb => hs b (by simp [hb])⟩
theorem zye {w : World} (op : Int) (z : Fm) : ∀ {xs : List Fm} {ys : List OF} {fps : List Nat}, xs ≠ [] -> zb1 w (ys.map ofC) (xs.map fmC) fps -> zib w (jnC op ys) (fmC (zcs op xs z)) fps
 | [], _, _, h, _ => absurd rfl h
 | x :: xs, [], _, _, h => by rw [List.map_nil, List.map_cons] at h; unfold zb1 at h; exact absurd h.1 (by simp)
 | x :: xs, y :: ys, fps, _, h => by
  rw [List.map_cons, List.map_cons] at h
  unfold zb1 at h
  obtain ⟨r', rs', e1, e2, h0, rfl, h1, h2⟩ := h
  simp only [List.cons.injEq] at h0
  obtain ⟨rfl, rfl⟩ := h0
  have hlen := h2.len
  simp only [List.length_map] at hlen
  by_cases hx : xs = []
  ·subst hx
   have hy : ys = [] := List.length_eq_zero_iff.1 (by simpa using hlen.symm)
   subst hy
   rw [List.map_nil, List.map_nil] at h2
   unfold zb1 at h2
   rw [h2.2, List.append_nil]
   exact h1
  ·have hy : ys ≠ [] := fun e => hx (List.length_eq_zero_iff.1 (by rw [hlen, e]; rfl))
   rw [zk8 op y hy, zd3 op x hx, zbn, List.map_cons, List.map_cons, List.map_nil]
   have h3 := zye op z hx h2
   simp only [zib, GrT, zb1]
   exact ⟨_, _, [], _, rfl, rfl, ⟨rfl, rfl⟩, _, _, [], _, rfl, rfl, ⟨rfl, rfl⟩, _, _, [], _, rfl, rfl, ⟨[], rfl, rfl, rfl⟩, _, _, [], _, rfl, rfl, ⟨rfl, rfl⟩, _, _, e1 ++ e2, [], rfl, by simp, ⟨_, rfl, _, _, e1, e2, rfl, rfl, h1, _, _, e2, [], rfl, by simp, h3, rfl, rfl⟩, rfl, rfl⟩
theorem zt3 (op : Int) (xs : List Fm) (z : Fm) : GC Tryz.prog 71 [(false, iD op), (true, .one (fmS xs)), (true, fmD z)] [fmD (zcs op xs z)] := by
 refine zoq Tryz.call71 fun w vs fp tp hv hn => ?_
 obtain ⟨v1, _, rfl, h1, hv⟩ := hv
 obtain ⟨v2, _, f2, _, t2, _, rfl, rfl, rfl, h2, hv⟩ := hv
 obtain ⟨v3, _, f3, _, t3, _, rfl, rfl, rfl, h3, hv⟩ := hv
 obtain ⟨rfl, rfl, rfl⟩ := hv
 obtain ⟨a, rfl, h3⟩ := h3
 have h2 : zax w (fmS xs) v2 f2 := h2.1
 have h3 : zas w (fmC z) a f3 := zas.of_g h3
 obtain ⟨y, k1, k2⟩ := of_fm h3
 have hlt3 : ∀ b ∈ f3, b < w.heap.size := zas.lt h3
 have hlt2 : ∀ b ∈ f2, b < w.heap.size := zax.lt _ _ _ h2
 have hi : zt6 w (fun b => b < w.heap.size) (iD op) v1 := by
  have : zba w (fun b => b < w.heap.size) [iD op] [v1] := zba.keep (fun _ _ => rfl) (fun b hb => hb.1) (⟨v1, [], rfl, h1, rfl⟩ : zba w (fun b => b < w.heap.size /\ b ∉ f2 ++ (f3 ++ [])) [iD op] [v1])
  obtain ⟨_, _, e, h4, _⟩ := this
  cases e; exact h4
 obtain ⟨n1, n2, -⟩ := List.nodup_append.1 hn
 rw [List.append_nil] at n2
 have hS : ∃ (ys : List OF) (f : List Nat), ys.length = xs.length /\ f.Nodup /\ (∀ b ∈ f, b ∈ f2) /\ zal w (fun b => b < w.heap.size) (.sl 5 (ys.map ofC)) v2 /\ ∀ w' : World, (∀ b ∈ f, w'.heap[b]? = w.heap[b]?) -> zb1 w' (ys.map ofC) (xs.map fmC) f := by
  unfold fmS at h2
  unfold zax at h2
  obtain ⟨ao, cap, rfl, q1, q2, q3⟩ := h2
  rw [List.length_map] at q1
  rcases q3 with ⟨rfl, rfl, q3, rfl⟩ | ⟨b, cells, ty, fps, rfl, rfl, q3, q4, q5⟩
  ·have hx : xs = [] := by simpa using q3
   subst hx
   refine ⟨[], [], rfl, List.nodup_nil, fun b hb => hb, ?_, fun _ _ => by rw [List.map_nil, List.map_nil]; unfold zb1; exact ⟨rfl, rfl⟩⟩
   unfold zal
   exact ⟨none, 0, rfl, Nat.le_refl _, by simp, Or.inl rfl⟩
  ·obtain ⟨ys, r1, r2, r3⟩ := qfr q3 q5
   refine ⟨ys, fps, r1, (List.nodup_cons.1 n1).2, fun b hb => by simp [hb], ?_, r3⟩
   unfold zal
   exact ⟨_, cap, by rw [List.length_map, List.length_map, r1], by rw [List.length_map, r1]; exact q1, q2, Or.inr ⟨b, 0, rfl, hlt2 b (by simp), r2 _⟩⟩
 obtain ⟨ys, f, r1, r4, r5, r2, r3⟩ := hS
 by_cases hx : xs = []
 ·subst hx
  have hy : ys = [] := List.length_eq_zero_iff.1 (by simpa using r1)
  refine ⟨[iD op, .one (.sl 5 (ys.map ofC)), .agg (ofC y)], _, f3, zj0 op ys y, ⟨v1, _, rfl, hi, v2, _, rfl, r2, _, _, rfl, ⟨a, rfl, k1 _⟩, rfl⟩, n2, fun b hb => ⟨by simp [hb], hlt3 b hb⟩, fun w' hs => ?_⟩
  rw [if_pos hy]
  exact k2 w' hs
 ·have hy : ys ≠ [] := fun e => hx (List.length_eq_zero_iff.1 (by rw [<- r1, e]; rfl))
  refine ⟨[iD op, .one (.sl 5 (ys.map ofC)), .agg (ofC y)], _, f, zj0 op ys y, ⟨v1, _, rfl, hi, v2, _, rfl, r2, _, _, rfl, ⟨a, rfl, k1 _⟩, rfl⟩, r4, fun b hb => ⟨by simp [r5 b hb], hlt2 b (r5 b hb)⟩, fun w' hs => ?_⟩
  rw [if_neg hy]
  exact zye op z hx (r3 w' hs)
end Go.Proofs.YtemnhgmgeijkcaaGreat
namespace Go.Proofs.YtemnhgmgeijkcaaGreat
set_option linter.unusedSimpArgs false
set_option linter.unusedVariables false
set_option linter.unusedSectionVars false
set_option maxRecDepth 4000
open Go.RowKit
def jS (op : Int) (xs : List Fm) (J : Fm) (i : Int) (a b : Nat) : St := hd [(0, vT (fmS xs)), (1, .one (.t (.int .i64 op))), (6, .one (.bx 6 0)), (7, .one (.bx 7 0)), (8, .one (.t (.int .i64 i)))]
 [(6, [.t (.int .i64 0), .t (.str []), .nl 2, .t (.str []), .nl 5]), (7, [.t (.int .i64 J.op), .t (.str J.atom.name), .ow a 0, .t (.str J.var), .ow b 0])] [(a, ⟨true, 2, J.atom.args.map tmC, 0, true⟩), (b, ⟨true, 5, J.parts.map fmC, 0, true⟩)]
theorem qhn (op : Int) (xs : List Fm) (J : Fm) (i : Int) : Wk (jS op xs J i 642 644) (jS op xs J i 2002 644) := znn 642 2002 _ _ _
theorem qf2 (op : Int) (xs : List Fm) (J : Fm) (i : Int) : Wk (jS op xs J i 2002 644) (jS op xs J i 2002 2000) := znn 644 2000 _ _ _
theorem qht (op : Int) (xs : List Fm) (J : Fm) (i : Int) : Wk (jS op xs J i 2003 1120) (jS op xs J i 2003 2000) := znn 1120 2000 _ _ _
theorem qit (op : Int) (xs : List Fm) (J : Fm) (i : Int) : Wk (jS op xs J i 2003 2000) (jS op xs J i 2002 2000) := znn 2003 2002 _ _ _
theorem mkF_op (o : Int) (ps : List Fm) : (mkF o ps).op = o := rfl
theorem qbh (o : Int) (ps : List Fm) : (mkF o ps).atom.name = [] := rfl
theorem qb2 (o : Int) (ps : List Fm) : (mkF o ps).atom.args = [] := rfl
theorem qhj (o : Int) (ps : List Fm) : (mkF o ps).var = [] := rfl
theorem zy3 (o : Int) (ps : List Fm) : (mkF o ps).parts = ps := rfl
theorem zl5 (xs : List Fm) (op none : Int) (hs : xs.length <= 1099511627776) (hwt : ∀ k (h : k < xs.length), xs[k].wt <= 1048576) : FC Tryz.prog 115 [.one (fmS xs), iD op, iD none] [fmD (zcs op xs (mkF none []))] := by
 by_cases hx : xs = []
 ·subst hx
  show FC _ _ _ [fmD (mkF none [])]
  simp only [fmD, zbn, List.map_nil, fmS]
  refine zah Tryz.call115 Tryz.func115 rfl (by kernel_rfl) (zat (by kernel_rfl)) ?_
  simp -implicitDefEqProofs only [go_sem, Tryz.results115]
 ·have hn : 0 < xs.length := List.length_pos_iff.2 hx
  have e0 : ((xs.length : Int) == 0) = false := by simp; omega
  have e1 : IntKind.i64.wrap ((xs.length : Int) - 1) = ((xs.length - 1 : Nat) : Int) := by rw [zbk (by omega) (by omega)]; omega
  have e2 : IntKind.i64.wrap ((xs.length : Int) - 2) = (xs.length : Int) - 2 := zbk (by omega) (by omega)
  have hi : xs.length - 1 < xs.length := by omega
  have hR : ∃ R, zcs op xs (mkF none []) = R := ⟨_, rfl⟩
  obtain ⟨R, hR⟩ := hR
  rw [hR]
  simp only [fmD, zab R]
  have hL := zab xs[xs.length - 1]
  refine zah Tryz.call115 Tryz.func115 rfl (by kernel_rfl) (zat (by kernel_rfl)) ?_
  simp -implicitDefEqProofs only [go_sem, Tryz.results115, e0, e1, hi, zag, hL]
  refine callF (zqf xs[xs.length - 1] (hwt _ hi)) (by simp -implicitDefEqProofs only [go_sem, zab xs[xs.length - 1], e2]) ?_
  simp -implicitDefEqProofs only [go_sem, zab xs[xs.length - 1], e2]
  have hd1 : zcs op (xs.drop (xs.length - 1)) (mkF none []) = xs[xs.length - 1] := by
   rw [List.drop_eq_getElem_cons hi, List.drop_of_length_le (by omega)]; rfl
  refine zae (fun k : Nat => jS op xs (zcs op (xs.drop (xs.length - 1 - k)) (mkF none [])) ((xs.length : Int) - 2 - k) 2002 2000) (fun k => k <= xs.length - 1) (fun k => xs.length - 1 - k) 0 (Wk.trans ?_ ((qhn _ _ _ _).trans (qf2 _ _ _ _))) (Nat.zero_le _) ?_
  ·rw [Nat.sub_zero, hd1]
   unfold jS
   refine zac ?_
   simp -implicitDefEqProofs only [go_sem]
   simp
  ·intro k hk
   by_cases hlt : k < xs.length - 1
   ·obtain ⟨m, hm⟩ : ∃ m, xs.length - 2 - k = m := ⟨_, rfl⟩
    have hml : m < xs.length := by omega
    have hge : ((0 : Int) <= (m : Int)) = True := by simp
    have hdk : zcs op (xs.drop (xs.length - 1 - (k + 1))) (mkF none []) = mkF op [xs[m], zcs op (xs.drop (xs.length - 1 - k)) (mkF none [])] := by
     rw [show xs.length - 1 - (k + 1) = m by omega, List.drop_eq_getElem_cons hml, show m + 1 = xs.length - 1 - k by omega]
     refine zd3 op _ ?_ _
     intro e
     have := congrArg List.length e
     simp at this; omega
    have hwm := hwt m hml
    have hnx : Wk (jS op xs (zcs op (xs.drop (xs.length - 1 - (k + 1))) (mkF none [])) ((xs.length : Int) - 2 - ((k + 1 : Nat) : Int)) 2003 1120) (jS op xs (zcs op (xs.drop (xs.length - 1 - (k + 1))) (mkF none [])) ((xs.length : Int) - 2 - ((k + 1 : Nat) : Int)) 2002 2000) := (qht _ _ _ _).trans (qit _ _ _ _)
    have e3 : IntKind.i64.wrap ((m : Int) - 1) = (xs.length : Int) - 2 - ((k + 1 : Nat) : Int) := by rw [zbk (by omega) (by omega)]; omega
    rw [show (xs.length : Int) - 2 - (k : Int) = (m : Int) by omega]
    generalize hJ : zcs op (xs.drop (xs.length - 1 - k)) (mkF none []) = J at hdk ⊢
    generalize hX : xs[m] = x at hdk hwm
    have hxE := zab x
    unfold jS
    simp -implicitDefEqProofs only [go_sem, hge, zag, hml, hX, hxE]
    refine drawn (by kernel_rfl) ?_
    simp -implicitDefEqProofs only [go_sem, zag, hml, hX, hxE]
    refine zaz (zqf x hwm) (by simp -implicitDefEqProofs only [go_sem, hxE]) ?_
    simp -implicitDefEqProofs only [go_sem, hxE]
    refine zbl (by simp -implicitDefEqProofs only [go_sem]) ?_
    simp -implicitDefEqProofs only [go_sem]
    refine ⟨by kernel_rfl, k + 1, by omega, by omega, Wk.trans ?_ hnx⟩
    rw [hdk]
    unfold jS
    refine zac ?_
    simp -implicitDefEqProofs only [go_sem, e3, mkF_op, qbh, qb2, qhj, zy3, List.map_cons, List.map_nil, hxE]
    rw [zab J]
   ·have hk2 : k = xs.length - 1 := by omega
    subst hk2
    have hlt0 : ((xs.length : Int) - 2 - ((xs.length - 1 : Nat) : Int)) = -1 := by omega
    rw [Nat.sub_self, List.drop_zero, hR, hlt0]
    unfold jS
    simp -implicitDefEqProofs only [go_sem]
end Go.Proofs.YtemnhgmgeijkcaaGreat
namespace Go.Proofs.YtemnhgmgeijkcaaGreat
set_option linter.unusedSimpArgs false
set_option linter.unusedVariables false
set_option linter.unusedSectionVars false
set_option maxRecDepth 4000
open Go.RowKit
theorem wt_mkF (o : Int) (ps : List Fm) : (mkF o ps).wt = ps.length + (ps.map Fm.wt).sum := by
 rw [Fm.wt_eq]
 show (Tm.mk [] []).wt + 0 + ps.length + _ = _
 rw [Tm.wt_eq]
 simp [Tm.name, Tm.args, mkF, Fm.parts]
end Go.Proofs.YtemnhgmgeijkcaaGreat
namespace Go.Proofs.YtemnhgmgeijkcaaGreat
set_option linter.unusedSimpArgs false
set_option linter.unusedVariables false
set_option linter.unusedSectionVars false
set_option maxRecDepth 4000
open Go.RowKit
theorem zo2 (f : Fm) (hs : f.wt <= 1099511627776) : GC Tryz.prog 70 [(true, fmD f)] [fmD (if f.good = true then f else mkF 0 []), bD f.good] := by
 cases h : f.good
 ·rw [if_neg (by simp)]
  simp only [fmD, zab f, zbn, List.map_nil]
  refine zyw Tryz.call70 Tryz.func70 rfl (by kernel_rfl) (by simp only [List.length_cons, List.length_nil, Tryz.ntmps70]; omega) (by simp [zb6, T.isPin]) ?_
  simp -implicitDefEqProofs only [go_sem, Tryz.results70]
  refine callF (zce f hs) (by simp -implicitDefEqProofs only [go_sem, zab f, h]) ?_
  simp -implicitDefEqProofs only [go_sem, zab f, h]
 ·rw [if_pos rfl]
  simp only [fmD, zab f]
  refine zyw Tryz.call70 Tryz.func70 rfl (by kernel_rfl) (by simp only [List.length_cons, List.length_nil, Tryz.ntmps70]; omega) (by simp [zb6, T.isPin]) ?_
  simp -implicitDefEqProofs only [go_sem, Tryz.results70]
  refine callF (zce f hs) (by simp -implicitDefEqProofs only [go_sem, zab f, h]) ?_
  simp -implicitDefEqProofs only [go_sem, zab f, h]
theorem zou (op : Int) (z : Fm) : ∀ xs : List Fm, (zcs op xs z).wt <= 2 * xs.length + (xs.map Fm.wt).sum + z.wt
 | [] => by simp [zcs]
 | x :: xs => by
  by_cases h : xs = []
  ·subst h; simp [zcs]; omega
  ·rw [zd3 op x h, wt_mkF]
   have := zou op z xs
   simp; omega
end Go.Proofs.YtemnhgmgeijkcaaGreat
namespace Go.Proofs.YtemnhgmgeijkcaaGreat
set_option linter.unusedSimpArgs false
set_option linter.unusedVariables false
set_option linter.unusedSectionVars false
set_option maxRecDepth 4000
open Go.RowKit
theorem qh4 {n m : Str} (hn : zav n = true) (hm : zch m = true) : (n == m) = false := by
 rw [beq_eq_false_iff_ne]
 rintro rfl
 have h1 := (zr1 hn).1
 have h2 := (zmz hm).1
 rw [h1] at h2
 cases h2
theorem ztk {n : Str} (h : zch n = true) : zav n = false := by
 cases hv : zav n
 ·rfl
 ·have := qh4 hv h
  simp at this
theorem noneT {a : Tm} (h : a.none = true) : a = .mk [] [] := by
 unfold Tm.none at h
 rw [Bool.and_eq_true, beq_iff_eq, decide_eq_true_eq, List.length_eq_zero_iff] at h
 cases a with
 | mk n xs => simp only [Tm.name, Tm.args] at h; rw [h.1, h.2]
theorem zf3 {f : Fm} (h : f.here = true) (h3 : (f.op == 3) = false) : f.atom = .mk [] [] := by
 apply noneT
 unfold Fm.here at h
 rw [h3] at h
 simp only [Bool.false_eq_true, if_false] at h
 split at h
 ·simp only [Bool.and_eq_true] at h; exact h.1.2
 ·split at h
  ·simp only [Bool.and_eq_true] at h; exact h.1.2
  ·split at h
   ·simp only [Bool.and_eq_true] at h; exact h.1.2
   ·split at h
    ·simp only [Bool.and_eq_true] at h; exact h.1.2
    ·cases h
theorem zvd {f : Fm} {ps : List Fm} (h : f.here = true) (h3 : (f.op == 3) = false) (hl : ps.length = f.parts.length) : (Fm.mk f.op f.atom f.var ps).here = true := by
 have e : (Fm.mk f.op f.atom f.var ps).here = f.here := by
  unfold Fm.here
  show (if (f.op == 1 || f.op == 2) = true then decide (ps.length = 0) && f.atom.none && (f.var == []) else if (f.op == 3) = true then decide (ps.length = 0) && f.atom.atomOk && (f.var == []) else if (f.op == 4) = true then decide (ps.length = 1) && f.atom.none && (f.var == []) else if zjc f.op = true then decide (ps.length = 2) && f.atom.none && (f.var == []) else if isQ f.op = true then decide (ps.length = 1) && f.atom.none && zav f.var else false) = _
  rw [hl]
 rw [e]; exact h
theorem qan {f : Fm} (h1 : f.here = true) (h : isQ f.op = true) : zav f.var = true := by
 unfold Fm.here at h1
 have h2 : (f.op == 1 || f.op == 2) = false /\ (f.op == 3) = false /\ (f.op == 4) = false /\ zjc f.op = false := by
  have h8 : f.op = 8 \/ f.op = 9 := by unfold isQ at h; rw [Bool.or_eq_true, beq_iff_eq, beq_iff_eq] at h; exact h
  rcases h8 with e | e <;> rw [e] <;> decide
 rw [h2.1, h2.2.1, h2.2.2.1, h2.2.2.2, h] at h1
 simp only [Bool.false_eq_true, if_false, if_true, Bool.and_eq_true] at h1
 exact h1.2
theorem zsj (o : Int) (a : Tm) (v : Str) (ps : List Fm) : (Fm.mk o a v ps).forms = ((Fm.mk o a v ps).here && ps.all Fm.forms) := Fm.forms_eq _
theorem zen {f : Fm} (h : f.good = true) : f.forms = true := (Bool.and_eq_true _ _ ▸ h : _ /\ _).2
end Go.Proofs.YtemnhgmgeijkcaaGreat
namespace Go.Proofs.YtemnhgmgeijkcaaGreat
set_option linter.unusedSimpArgs false
set_option linter.unusedVariables false
set_option linter.unusedSectionVars false
set_option maxRecDepth 4000
open Go.RowKit
theorem zoa (a t : Tm) : FC Tryz.prog 227 [tmD a, .one (.ptr (tmC t))] [bD (same a t)] := by
 have H := zg3 a t
 simp only [tmD, zaa] at H ⊢
 refine zah Tryz.call227 Tryz.func227 rfl (by kernel_rfl) (zat (by kernel_rfl)) ?_
 simp -implicitDefEqProofs only [go_sem, Tryz.results227]
 refine callF (H) (by simp -implicitDefEqProofs only [go_sem]) ?_
 simp -implicitDefEqProofs only [go_sem]
theorem zkx (xs : List Tm) (t : Tm) : FC Tryz.prog 163 [.one (tmS xs), tmD t] [iD (zt1 xs fun a => same a t)] := by
 have H := zev xs (fun a => same a t) 227 [.ptr (tmC t)] fun x _ => zoa x t
 simp only [tmD, zaa t] at H ⊢
 refine zah Tryz.call163 Tryz.func163 rfl (by kernel_rfl) (zat (by kernel_rfl)) ?_
 simp -implicitDefEqProofs only [go_sem, Tryz.results163]
 refine callF (H) (by simp -implicitDefEqProofs only [go_sem]) ?_
 simp -implicitDefEqProofs only [go_sem]
theorem zt5 (xs : List Tm) (t : Tm) : FC Tryz.prog 153 [.one (tmS xs), tmD t] [iD (zt1 xs fun a => same a t)] := by
 refine zc0 (fun hw => ?_) Tryz.call153
 have hl : xs.length <= 9223372036854775807 := by simpa [zfj, wfT] using hw.1.1
 simp only [tmD, zaa t]
 refine zah Tryz.call153 Tryz.func153 rfl (by kernel_rfl) (zat (by kernel_rfl)) ?_
 simp -implicitDefEqProofs only [go_sem, Tryz.results153]
 refine zae (fun k : Nat => hd [(0, vT (tmS xs)), (3, .one (.bx 3 0)), (5, vI k)] [(3, [.t (.str t.name), .t (tmS t.args)])] []) (fun k => k <= xs.length /\ ∀ x ∈ xs.take k, same x t = false) (fun k => xs.length - k) 0 (zac ?_) ⟨Nat.zero_le _, by simp⟩ ?_
 ·simp -implicitDefEqProofs only [go_sem]
 ·rintro k ⟨hk, hT⟩
  by_cases hlt : k < xs.length
  ·have HC := zr6 xs[k] t
   simp only [tmD, zaa xs[k], zaa t] at HC
   simp -implicitDefEqProofs only [go_sem, hlt]
   refine drawn (by kernel_rfl) ?_
   simp -implicitDefEqProofs only [go_sem, zag, hlt, zaa xs[k]]
   refine zaz (HC) (by simp -implicitDefEqProofs only [go_sem]) ?_
   simp -implicitDefEqProofs only [go_sem]
   refine ⟨by kernel_rfl, fun h => ?_, fun h => ?_⟩
   ·rw [ze6 hlt hT h]
   ·refine ⟨k + 1, ⟨hlt, zed hlt hT h⟩, by omega, zac ?_⟩
    simp -implicitDefEqProofs only [go_sem]
    rw [zao (by omega)]
  ·simp -implicitDefEqProofs only [go_sem, hlt]
   rw [List.take_of_length_le (by omega)] at hT
   rw [ziv hT]
end Go.Proofs.YtemnhgmgeijkcaaGreat
namespace Go.Proofs.YtemnhgmgeijkcaaGreat
set_option linter.unusedSimpArgs false
set_option linter.unusedVariables false
set_option linter.unusedSectionVars false
set_option maxRecDepth 4000
open Go.RowKit
noncomputable def dec (p : Prop) : Bool := @decide p (Classical.propDecidable _)
theorem zd5 {p : Prop} : dec p = true ↔ p := by simp [dec]
end Go.Proofs.YtemnhgmgeijkcaaGreat
namespace Go.Proofs.YtemnhgmgeijkcaaGreat
set_option linter.unusedSimpArgs false
set_option linter.unusedVariables false
set_option linter.unusedSectionVars false
set_option maxRecDepth 4000
open Go.RowKit
theorem zxx {α : Type} {l : List α} (h : l.Nodup) {i j : Nat} (hi : i < l.length) (hj : j < l.length) (e : l[i] = l[j]) : i = j := by
 rw [List.nodup_iff_pairwise_ne, List.pairwise_iff_getElem] at h
 rcases Nat.lt_trichotomy i j with h1 | h1 | h1
 ·exact absurd e (h i j hi hj h1)
 ·exact h1
 ·exact absurd e.symm (h j i hj hi h1)
theorem qii {f : Fm} (hf : f.forms = true) : f.here = true := by
 rw [Fm.forms_eq, Bool.and_eq_true] at hf; exact hf.1
theorem zsf {f : Fm} (h : f.here = true) (hq : isQ f.op = false) : f.var = [] := by
 unfold Fm.here at h
 rw [hq] at h
 simp only [Bool.false_eq_true, if_false] at h
 (repeat' split at h) <;> first | (simp only [Bool.and_eq_true, beq_iff_eq] at h; exact h.2) | cases h
theorem zt9 {f : Fm} (h : f.here = true) (h3 : (f.op == 3) = true) : f.parts.length = 0 := by
 rw [(ziq h (by simpa using h3)).2]; rfl
end Go.Proofs.YtemnhgmgeijkcaaGreat
namespace Go.Proofs.YtemnhgmgeijkcaaGreat
set_option linter.unusedSimpArgs false
set_option linter.unusedVariables false
set_option linter.unusedSectionVars false
set_option maxRecDepth 4000
open Go.RowKit
theorem zqv {f : Fm} (h : f.good = true) : f.forms = true := (Bool.and_eq_true _ _ ▸ h : _ /\ _).2
theorem qd0 (xs : List Str) : (zdk xs).Pairwise (· <= ·) := by
 have tr : ∀ a b c : List UInt8, leB a b = true -> leB b c = true -> leB a c = true := fun a b c h1 h2 => by simp only [leB, decide_eq_true_eq] at *; exact List.le_trans h1 h2
 have to : ∀ a b : List UInt8, (leB a b || leB b a) = true := fun a b => by simp only [leB, Bool.or_eq_true, decide_eq_true_eq]; exact List.le_total a b
 refine (List.pairwise_mergeSort tr to xs).imp ?_
 intro a b h1
 simpa only [leB, decide_eq_true_eq] using h1
theorem zey (ns : List Str) : (zdk ns).length = ns.length := (List.mergeSort_perm ns leB).length_eq
theorem zos (ns : List Str) : ((Lib.compact (zdk ns)).length == ns.length) = decide ns.Nodup := by
 have hp : (zdk ns).Nodup ↔ ns.Nodup := (List.mergeSort_perm ns leB).nodup_iff
 rw [Bool.eq_iff_iff, beq_iff_eq, decide_eq_true_eq, <- hp, <- zey ns]
 have hs : (zdk ns).Pairwise (· <= ·) := qd0 ns
 generalize zdk ns = zs at hs ⊢
 unfold Lib.compact Lib.compactUpTo
 rw [List.length_map]
 have hr : zs.length = (List.range zs.length).length := by simp
 rw [show ((List.filter (Lib.keeps zs.toArray) (List.range zs.length)).length = zs.length) = ((List.filter (Lib.keeps zs.toArray) (List.range zs.length)).length = (List.range zs.length).length) by rw [<- hr], List.length_filter_eq_length_iff]
 rw [List.pairwise_iff_getElem] at hs
 unfold List.Nodup
 rw [List.pairwise_iff_getElem]
 constructor
 ·intro h i j hi hj hij e
  have hk := h j (by simpa using hj)
  unfold Lib.keeps at hk
  rw [decide_eq_true_eq] at hk
  rcases hk with hk | hk
  ·omega
  ·apply hk
   have hj1 : j - 1 < zs.length := by omega
   rw [show zs.toArray[j]! = zs[j] by simp [hj], show zs.toArray[j - 1]! = zs[j - 1] by simp [hj1]]
   by_cases hij2 : i = j - 1
   ·subst hij2; exact e.symm
   ·have h1 := hs i (j - 1) hi hj1 (by omega)
    have h2 := hs (j - 1) j hj1 hj (by omega)
    rw [<- e] at h2 ⊢
    exact List.le_antisymm h1 h2
 ·intro h j hj
  have hj : j < zs.length := by simpa using hj
  unfold Lib.keeps
  rw [decide_eq_true_eq]
  by_cases h0 : j = 0
  ·exact Or.inl h0
  ·right
   have hj1 : j - 1 < zs.length := by omega
   rw [show zs.toArray[j]! = zs[j] by simp [hj], show zs.toArray[j - 1]! = zs[j - 1] by simp [hj1]]
   exact fun e => h (j - 1) j hj1 hj (by omega) e.symm
noncomputable def qbc (f : Fm) : Bool := f.good && decide ((zbd [] (vf f [])).length = 0) && decide (exN f).1.Nodup && za1 (exN f).2
theorem zoc (f : Fm) (hw : f.wt <= 1048576) : FC Tryz.prog 64 [fmD f] [bD (qbc f)] := by
 have hH : qbc f = (f.good && decide ((zbd [] (vf f [])).length = 0) && decide (exN f).1.Nodup && za1 (exN f).2) := rfl
 cases hg : f.good
 ·rw [hH, hg]
  simp only [fmD, zab f]
  refine zcp Tryz.call64 Tryz.func64 rfl (by kernel_rfl) (zat (by kernel_rfl)) ?_
  simp -implicitDefEqProofs only [go_sem, Tryz.results64]
  refine callF (zce f (by omega)) (by simp -implicitDefEqProofs only [go_sem, zab f, hg]) ?_
  simp -implicitDefEqProofs only [go_sem, zab f, hg]
 ·rw [hg, Bool.true_and] at hH
  have HF := free_c f (zqv hg) hw
  have HP := zr0 f (zqv hg) hw
  have hL := zez f
  have hN := zb4 f
  generalize (exN f).1 = ns at hH HP hL
  generalize (exN f).2 = g at hH HP
  generalize (zbd [] (vf f [])) = V at hH HF
  have hcl := zos ns
  simp only [fmD, zab f, zab g] at HF HP ⊢
  refine zcp Tryz.call64 Tryz.func64 rfl (by kernel_rfl) (zat (by kernel_rfl)) ?_
  simp -implicitDefEqProofs only [go_sem, Tryz.results64]
  refine callF (zce f (by omega)) (by simp -implicitDefEqProofs only [go_sem, zab f, hg]) ?_
  simp -implicitDefEqProofs only [go_sem, zab f, hg]
  by_cases hV : V.length = 0
  ·have hS := zh0 ns (by omega)
   have hC := zkb (zdk ns) (by rw [zey]; omega)
   have hK := znh (zdk ns)
   have hO := qf4 g
   simp only [fmD, zab g] at hO
   rw [<- zey ns] at hcl
   have hsl := zey ns
   generalize Lib.compact (zdk ns) = cs at hK hcl
   generalize zdk ns = ss at hS hC hK hcl hsl
   rw [show decide (V.length = 0) = true by simp [hV], Bool.true_and] at hH
   refine zjl (HF) (by simp -implicitDefEqProofs only [go_sem, hV]) ?_
   simp -implicitDefEqProofs only [go_sem, hV]
   refine zst [1] [15] [] (HP) (by simp -implicitDefEqProofs only [go_sem]) (by simp -implicitDefEqProofs only [go_sem]) (by simp -implicitDefEqProofs only [go_sem]) (by simp -implicitDefEqProofs only [go_sem]) ?_
   simp -implicitDefEqProofs only [go_sem]
   refine zvh (hS) (by simp -implicitDefEqProofs only [go_sem, zbq]) (by simp -implicitDefEqProofs only [go_sem, zbq]) rfl ?_
   simp -implicitDefEqProofs only [go_sem, zbq]
   refine frzO 512 rfl rfl ?_
   simp -implicitDefEqProofs only [go_sem]
   refine callF (hC) (by simp -implicitDefEqProofs only [go_sem]) ?_
   simp -implicitDefEqProofs only [go_sem]
   have hcl' : ((cs.length : Int) == (ss.length : Int)) = decide ns.Nodup := by rw [<- hcl, Bool.eq_iff_iff]; simp only [beq_iff_eq]; omega
   cases hn : decide ns.Nodup
   ·rw [hn] at hcl' hH
    refine zcb [3, 4] [22] [] (hK) (by simp -implicitDefEqProofs only [go_sem, hcl']) (by simp -implicitDefEqProofs only [go_sem, hcl']) (by simp -implicitDefEqProofs only [go_sem, hcl']) (by simp -implicitDefEqProofs only [go_sem, hcl']) ?_
    simp -implicitDefEqProofs only [go_sem, hcl']
    exact Or.inl (by rw [hH]; rfl)
   ·rw [hn] at hcl' hH
    refine zcb [3, 4] [22] [] (hK) (by simp -implicitDefEqProofs only [go_sem, hcl']) (by simp -implicitDefEqProofs only [go_sem, hcl']) (by simp -implicitDefEqProofs only [go_sem, hcl']) (by simp -implicitDefEqProofs only [go_sem, hcl']) ?_
    simp -implicitDefEqProofs only [go_sem, hcl']
    refine zh5 (by simp -implicitDefEqProofs only [go_sem]) ?_
    simp -implicitDefEqProofs only [go_sem]
    refine callF (hO) (by simp -implicitDefEqProofs only [go_sem]) ?_
    simp -implicitDefEqProofs only [go_sem]
    exact Or.inl (by rw [hH]; simp)
  ·rw [show decide (V.length = 0) = false by simp [hV], Bool.false_and, Bool.false_and] at hH
   have hV' : (0 : Int) < (V.length : Int) := by omega
   refine zjl (HF) (by simp -implicitDefEqProofs only [go_sem, hV']) ?_
   simp -implicitDefEqProofs only [go_sem, hV']
   exact Or.inl (by rw [hH])
theorem zn5 (f : Fm) (hw : f.wt <= 1048576) : FC Tryz.prog 110 [fmD f] [bD (qbc f)] := by
 have hH : qbc f = (f.good && decide ((zbd [] (vf f [])).length = 0) && decide (exN f).1.Nodup && za1 (exN f).2) := rfl
 cases hg : f.good
 ·rw [hH, hg]
  simp only [fmD, zab f]
  refine zcp Tryz.call110 Tryz.func110 rfl (by kernel_rfl) (zat (by kernel_rfl)) ?_
  simp -implicitDefEqProofs only [go_sem, Tryz.results110]
  refine callF (zhh f (by omega)) (by simp -implicitDefEqProofs only [go_sem, zab f, hg]) ?_
  simp -implicitDefEqProofs only [go_sem, zab f, hg]
 ·rw [hg, Bool.true_and] at hH
  have HF := zsg f (zqv hg) hw
  have HP := zof f (zqv hg) hw
  have hL := zez f
  have hN := zb4 f
  have hgw := Nat.le_trans (zzl f) hw
  generalize (exN f).1 = ns at hH HP hL
  generalize (exN f).2 = g at hH HP hgw
  generalize (zbd [] (vf f [])) = V at hH HF
  simp only [fmD, zab f, zab g] at HF HP ⊢
  refine zcp Tryz.call110 Tryz.func110 rfl (by kernel_rfl) (zat (by kernel_rfl)) ?_
  simp -implicitDefEqProofs only [go_sem, Tryz.results110]
  refine callF (zhh f (by omega)) (by simp -implicitDefEqProofs only [go_sem, zab f, hg]) ?_
  simp -implicitDefEqProofs only [go_sem, zab f, hg]
  by_cases hV : V.length = 0
  ·have hO := zta g hgw
   simp only [fmD, zab g] at hO
   rw [show decide (V.length = 0) = true by simp [hV], Bool.true_and] at hH
   refine zjl (HF) (by simp -implicitDefEqProofs only [go_sem, hV]) ?_
   simp -implicitDefEqProofs only [go_sem, hV]
   refine zst [1] [16] [] (HP) (by simp -implicitDefEqProofs only [go_sem]) (by simp -implicitDefEqProofs only [go_sem]) (by simp -implicitDefEqProofs only [go_sem]) (by simp -implicitDefEqProofs only [go_sem]) ?_
   simp -implicitDefEqProofs only [go_sem]
   refine zae (fun k : Nat => hd [(3, .one (.rn (zb0 ns))), (4, .one (.bx 4 0)), (5, vI k)] [(4, [.t (.int .i64 g.op), .t (.str g.atom.name), .rn (tmS g.atom.args), .t (.str g.var), .rn (fmS g.parts)])] []) (fun k => k <= ns.length /\ (ns.take k).Nodup) (fun k => ns.length - k) 0 (zac ?_) ⟨Nat.zero_le _, List.nodup_nil⟩ ?_
   ·simp -implicitDefEqProofs only [go_sem]
   ·rintro k ⟨hk, hT⟩
    by_cases hlt : k < ns.length
    ·simp -implicitDefEqProofs only [go_sem, hlt]
     refine drawn (by kernel_rfl) ?_
     simp -implicitDefEqProofs only [go_sem, zag, hlt]
     refine ⟨hk, ?_⟩
     refine zaz (zrr (ns.take k) ns[k]) (by simp -implicitDefEqProofs only [go_sem, zb0, List.map_take]) ?_
     simp -implicitDefEqProofs only [go_sem, zb0, List.map_take]
     refine ⟨by kernel_rfl, fun h => ?_, fun h => ?_⟩
     ·have hn : decide ns.Nodup = false := by
       rw [decide_eq_false_iff_not]
       intro hnd
       have h1 : (ns.take (k + 1)).Nodup := hnd.sublist (List.take_sublist _ _)
       rw [List.take_succ_eq_append_getElem hlt, List.nodup_append] at h1
       exact h1.2.2 _ (by simpa using h) _ (by simp) rfl
      rw [hn] at hH
      exact Or.inl (by rw [hH]; rfl)
     ·refine ⟨k + 1, ⟨hlt, ?_⟩, by omega, zac ?_⟩
      ·rw [List.take_succ_eq_append_getElem hlt, List.nodup_append]
       refine ⟨hT, by simp, ?_⟩
       rintro a ha b hb rfl
       rw [List.mem_singleton] at hb
       subst hb
       simp only [List.contains_eq_mem, decide_eq_false_iff_not] at h
       exact h ha
      ·simp -implicitDefEqProofs only [go_sem]
       rw [zao (by omega)]
    ·simp -implicitDefEqProofs only [go_sem, hlt]
     rw [List.take_of_length_le (by omega)] at hT
     rw [show decide ns.Nodup = true by simp [hT], Bool.true_and] at hH
     refine callF (hO) (by simp -implicitDefEqProofs only [go_sem]) ?_
     simp -implicitDefEqProofs only [go_sem]
     exact Or.inl (by rw [hH])
  ·rw [show decide (V.length = 0) = false by simp [hV], Bool.false_and, Bool.false_and] at hH
   have hV' : (0 : Int) < (V.length : Int) := by omega
   refine zjl (HF) (by simp -implicitDefEqProofs only [go_sem, hV']) ?_
   simp -implicitDefEqProofs only [go_sem, hV']
   exact Or.inl (by rw [hH])
end Go.Proofs.YtemnhgmgeijkcaaGreat
namespace Go.Proofs.YtemnhgmgeijkcaaGreat
set_option linter.unusedSimpArgs false
set_option linter.unusedVariables false
set_option linter.unusedSectionVars false
set_option maxRecDepth 4000
open Go.RowKit
abbrev zjz (xs : List (List Tm)) : T := .sl 1 (xs.map fun s => [tmS s])
end Go.Proofs.YtemnhgmgeijkcaaGreat
namespace Go.Proofs.YtemnhgmgeijkcaaGreat
set_option linter.unusedSimpArgs false
set_option linter.unusedVariables false
set_option linter.unusedSectionVars false
set_option maxRecDepth 4000
open Go.RowKit
abbrev tssD (l : List (List Tm)) : D := .one (zjz l)
theorem zxd {d : PD} (h : zbh Tryz.prog 28 d) : ∃ l : List (List Tm), d.cells = [zjz l] := by
 obtain ⟨xs, rfl, hx⟩ := h.sl Tryz.underlying28
 obtain ⟨l, hl⟩ := zd1 (fun s => [tmS s]) xs fun x hx' => qay (hx x hx')
 exact ⟨l, by rw [PD.cells, hl, show Tryz.prog.cellsOf 22 = 1 from by kernel_rfl]⟩
end Go.Proofs.YtemnhgmgeijkcaaGreat
namespace Go.Proofs.YtemnhgmgeijkcaaGreat
set_option linter.unusedSimpArgs false
set_option linter.unusedVariables false
set_option linter.unusedSectionVars false
set_option maxRecDepth 4000
open Go.RowKit
variable {P : Program}
section
variable {ks : List Fr} {Q : Exit -> St -> Prop} {σ : St} {ops : Array Oper} {os : List Oper} {L : List (List Ky × List Ky)} {d : Nat} {t : TypeId} {ty : TypeId} {ps : String} {af : Array Edge} {len : Nat} {parts : Array (Nat × Operand)}
theorem zhf (h : zaq (blS P σ t len parts) fun _ => σ.ev (d * 32) = none)
  (k : exd P ops os (L ++ [(zau (parts.toList.map (·.2)) ++ (rK (qhr (zl4 P (σ.get P) t len parts)) ++ [(2, d * 32)]), dK (some d) ++ eK (blK d (blS P σ t len parts)))]) ks Q ((σ.bl d (blS P σ t len parts)).put (some d) (.one (.ow (d * 32) 0)))) :
  exd P ops (⟨some d, .buildSlice t len parts, ty, ps, af, none⟩ :: os) L ks Q σ := by
 obtain ⟨⟨x, cons⟩, h1, h2⟩ := zap h
 rw [h1] at k
 unfold blS at h1
 obtain ⟨p, e1, h1⟩ := Option.bind_eq_some_iff.1 h1
 obtain ⟨q, e2, h1⟩ := Option.map_eq_some_iff.1 h1
 simp only [Prod.mk.injEq] at h1
 obtain ⟨rfl, rfl⟩ := h1
 rw [e1] at k
 exact qhy ⟨e1, e2, h2⟩ k
end
end Go.Proofs.YtemnhgmgeijkcaaGreat
