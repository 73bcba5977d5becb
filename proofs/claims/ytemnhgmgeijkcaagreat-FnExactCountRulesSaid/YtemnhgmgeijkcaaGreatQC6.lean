/-
  The walk over plain data, and contracts of functions of the program and of its laws.
  Conditions: those that each theorem names.
-/
import Derived.Test.YtemnhgmgeijkcaaGreatQC5
import Derived.Test.YtemnhgmgeijkcaaGreatQC4
namespace Go.Proofs.YtemnhgmgeijkcaaGreat
set_option linter.unusedSimpArgs false
set_option linter.unusedVariables false
set_option linter.unusedSectionVars false
set_option maxRecDepth 4000
open Go.RowKit
theorem qhd : ∀ a : Tm, a.wt <= 1099511627776 -> ∀ ys : List Str, ys.length + (voS a).length <= 1073741824 -> GC Tryz.prog 241 [(true, .one (zcm ys)), (false, tmD a)] [.one (zcm (zba ys (voS a)))] :=
 zbx fun n xs ih hw ys hs => qcb (.mk n xs) (fun x hx ys hs => ih x hx (Nat.le_trans (zok (a := .mk n xs) hx) hw) ys hs) ys hs (by have := Tm.wt_eq (.mk n xs); omega)
theorem zvj (a : Tm) (hw : a.wt <= 1099511627776) (hs : (voS a).length <= 1073741824) : FC Tryz.prog 178 [tmD a] [.one (zcm (zba [] (voS a)))] := by
 have HC := qhd a hw [] (by simpa using hs)
 simp only [tmD, zab] at HC ⊢
 refine zg1 Tryz.call178 Tryz.func178 rfl (by kernel_rfl) (zau (by kernel_rfl)) ?_
 simp -implicitDefEqProofs only [go_sem, Tryz.results178]
 refine zal (by simp -implicitDefEqProofs only [go_sem]) ?_
 simp -implicitDefEqProofs only [go_sem]
 refine zdw [] [3, 4] [] (HC) (by simp -implicitDefEqProofs only [go_sem]) (by simp -implicitDefEqProofs only [go_sem]) (by simp -implicitDefEqProofs only [go_sem]) (by simp -implicitDefEqProofs only [go_sem]) ?_
 simp -implicitDefEqProofs only [go_sem]
theorem zvm {s : Str} (h : zbc s = true) : zlx (s.getD 0 0) = true /\ 0 < s.length := by
 unfold zbc at h
 rw [Bool.and_eq_true] at h
 cases s with
 | nil => exact absurd h.2 (by decide)
 | cons b s =>
  have := zwu (s := b :: s) (by simp)
  rw [h.1] at this
  have := (Bool.and_eq_true _ _).mp this.symm
  exact ⟨this.1, by simp⟩
theorem up_low {b : UInt8} (h : zgb b = true) : zlx b = false := by
 unfold zgb zlx at *
 simp only [Bool.and_eq_true, decide_eq_true_eq, Bool.and_eq_false_iff, decide_eq_false_iff_not] at *
 omega
theorem zqp {s : Str} (h : zc4 s = true) : zlx (s.getD 0 0) = false /\ 0 < s.length := by
 unfold zc4 at h
 simp only [Bool.and_eq_true] at h
 cases s with
 | nil => exact absurd h.1.2 (by decide)
 | cons b s =>
  have := zpm (s := b :: s) (by simp)
  rw [h.1.1] at this
  have := (Bool.and_eq_true _ _).mp this.symm
  exact ⟨up_low this.1, by simp⟩
theorem zvy : ∀ a : Tm, a.names = true -> voI a = voS a /\ a.ne = true := zbx fun n xs ih h => by
 rw [Tm.names_eq] at h
 rw [qbm, zqu, Tm.ne_eq']
 change (if zbc n = true then decide (xs.length = 0) else zc4 n && decide (xs.length <= 4) && xs.all Tm.names) = true at h
 change (if (decide (xs.length = 0) && zlx (n.getD 0 0)) = true then [n] else (xs.map voI).flatten) = (if zbc n = true then [n] else (xs.map voS).flatten) /\ ((!decide (xs.length = 0) || decide (0 < n.length)) && xs.all Tm.ne) = true
 change ∀ x ∈ xs, _ at ih
 by_cases hv : zbc n = true
 ·rw [if_pos hv] at h ⊢
  obtain ⟨h1, h2⟩ := zvm hv
  have h : xs.length = 0 := of_decide_eq_true h
  have hx : xs = [] := List.length_eq_zero_iff.1 h
  subst hx
  rw [h1]
  exact ⟨rfl, by simp [h2]⟩
 ·rw [if_neg hv] at h ⊢
  simp only [Bool.and_eq_true] at h
  obtain ⟨h1, h2⟩ := zqp h.1.1
  rw [h1, Bool.and_false, if_neg (by simp)]
  have hI := fun x hx => ih x hx (List.all_eq_true.1 h.2 x hx)
  refine ⟨by rw [List.map_congr_left fun x hx => (hI x hx).1], ?_⟩
  rw [Bool.and_eq_true]
  exact ⟨by simp [h2], List.all_eq_true.2 fun x hx => (hI x hx).2⟩
theorem qjz {a : Tm} (h : a.atomOk = true) : voI a = voS a /\ a.ne = true := by
 unfold Tm.atomOk at h
 split at h
 ·rename_i he
  have he : a.name = [61] := by simpa using he
  simp only [Bool.and_eq_true, decide_eq_true_eq] at h
  rw [qbm, zqu, Tm.ne_eq', he]
  have hI := fun x hx => zvy x (List.all_eq_true.1 h.2 x hx)
  rw [show zlx (([61] : Str).getD 0 0) = false by decide, show zbc [61] = false by decide, Bool.and_false, if_neg (by simp), if_neg (by simp)]
  refine ⟨by rw [List.map_congr_left fun x hx => (hI x hx).1], ?_⟩
  rw [Bool.and_eq_true]
  exact ⟨by simp, List.all_eq_true.2 fun x hx => (hI x hx).2⟩
 ·simp only [Bool.and_eq_true] at h
  have := h.2
  unfold Tm.good at this
  rw [Bool.and_eq_true] at this
  exact zvy a this.2
theorem zib {f : Fm} (h : f.here = true) (h3 : f.op = 3) : f.atom.atomOk = true /\ f.parts = [] := by
 unfold Fm.here at h
 rw [h3] at h
 simp only [show ((3 : Int) == 1 || (3 : Int) == 2) = false by decide, show ((3 : Int) == 3) = true by decide, if_true, Bool.false_eq_true, if_false, Bool.and_eq_true, decide_eq_true_eq, List.length_eq_zero_iff] at h
 exact ⟨h.1.2, h.1.1⟩
def vf : Fm -> List Str -> List Str := Fm.fold fun o a v _ rs b => if (o == 3) = true then (zba [] (voS a)).filter (fun s => !b.contains s) else (rs.map fun r => r (if isQ o = true then b ++ [v] else b)).flatten
theorem zx0 (f : Fm) (b : List Str) : vf f b = if (f.op == 3) = true then (zba [] (voS f.atom)).filter (fun s => !b.contains s) else (f.parts.map fun x => vf x (if isQ f.op = true then b ++ [f.var] else b)).flatten := by
 unfold vf
 rw [Fm.fold_eq]
 simp only [List.map_map]
 rfl
theorem zoj : ∀ a : Tm, (voS a).length <= 1 + a.wt := zbx fun n xs ih => by
 rw [zqu, Tm.wt_eq]
 change (if zbc n = true then [n] else (xs.map voS).flatten).length <= 1 + (n.length + xs.length + (xs.map Tm.wt).sum)
 split
 ·simp
 ·have : ((xs.map voS).flatten).length <= xs.length + (xs.map Tm.wt).sum := by
   revert ih
   induction xs with
   | nil => simp
   | cons x xs ih2 =>
    intro ih
    have h1 := ih x (by simp)
    have h2 := ih2 fun y hy => ih y (by simp [hy])
    simp only [List.map_cons, List.flatten_cons, List.length_append, List.sum_cons, List.length_cons]
    omega
  omega
theorem zws : ∀ (f : Fm) (b : List Str), (vf f b).length <= f.nodes + f.wt := zcb fun o a v ps ih b => by
 rw [zx0, Fm.nodes_eq, Fm.wt_eq]
 change (if (o == 3) = true then (zba [] (voS a)).filter (fun s => !b.contains s) else (ps.map fun x => vf x (if isQ o = true then b ++ [v] else b)).flatten).length <= 1 + (ps.map Fm.nodes).sum + (a.wt + v.length + ps.length + (ps.map Fm.wt).sum)
 split
 ·have h1 := List.length_filter_le (fun s => !b.contains s) (zba [] (voS a))
  have h2 := zcr (voS a) []
  have h3 := zoj a
  simp only [List.length_nil] at h2
  omega
 ·have : ∀ b, ((ps.map fun x => vf x b).flatten).length <= (ps.map Fm.nodes).sum + (ps.map Fm.wt).sum := fun b => by
   revert ih
   induction ps with
   | nil => simp
   | cons x xs ih2 =>
    intro ih
    have h1 := ih x (by simp) b
    have h2 := ih2 fun y hy => ih y (by simp [hy])
    simp only [List.map_cons, List.flatten_cons, List.length_append, List.sum_cons]
    omega
  have := this (if isQ o = true then b ++ [v] else b)
  omega
def zgx (b l : List Str) (s : Str) : List Str := if (!b.contains s && !l.contains s) = true then l ++ [s] else l
theorem zi8 (b : List Str) : ∀ (ss l : List Str), ss.foldl (zgx b) l = zc6 l (ss.filter fun s => !b.contains s)
 | [], l => rfl
 | s :: ss, l => by
  rw [List.foldl_cons, zi8 b ss, List.filter_cons]
  unfold zgx
  by_cases h : b.contains s = true
  ·rw [h]; simp
  ·have h : b.contains s = false := by simpa using h
   rw [h, if_pos (show (!false) = true from rfl)]
   show _ = zc6 (zti l s) _
   congr 1
   unfold zti
   cases l.contains s <;> rfl
theorem qbz {b l : List Str} {s : Str} (h : (!b.contains s) = true) (h2 : (!l.contains s) = true) : zgx b l s = l ++ [s] := by unfold zgx; rw [h, h2]; rfl
theorem qhq {b l : List Str} {s : Str} (h2 : (!l.contains s) = false) : zgx b l s = l := by unfold zgx; rw [h2, Bool.and_false]; rfl
theorem qk6 {b l : List Str} {s : Str} (h : (!b.contains s) = false) : zgx b l s = l := by unfold zgx; rw [h, Bool.false_and]; rfl
theorem qc0 (b l : List Str) (s : Str) : (zgx b l s).length <= l.length + 1 := by unfold zgx; split <;> simp
theorem zmk (b : List Str) : ∀ (ss l : List Str), (ss.foldl (zgx b) l).length <= l.length + ss.length
 | [], l => by simp
 | s :: ss, l => by have := zmk b ss (zgx b l s); have := qc0 b l s; simp only [List.foldl_cons, List.length_cons] at *; omega
theorem zgd {α β : Type} (g : β -> α -> β) (xs : List α) (z : β) (k : Nat) (h : k < xs.length) : (xs.take (k + 1)).foldl g z = g ((xs.take k).foldl g z) xs[k] := by
 rw [List.take_succ_eq_append_getElem h, List.foldl_append]; rfl
set_option maxHeartbeats 2000000 in
theorem zz7 (f : Fm) (hf : f.forms = true) (hw : f.wt <= 1048576) (H : ∀ x ∈ f.parts, ∀ ys b : List Str, ys.length + (vf x b).length <= 1073741824 -> b.length + x.nodes <= 1073741824 -> GC Tryz.prog 183 [(true, .one (zcm ys)), (false, fmD x), (false, .one (zcm b))] [.one (zcm (zc6 ys (vf x b)))])
  (ys b : List Str) (hs : ys.length + (vf f b).length <= 1073741824) (hb : b.length + f.nodes <= 1073741824) : GC Tryz.prog 183 [(true, .one (zcm ys)), (false, fmD f), (false, .one (zcm b))] [.one (zcm (zc6 ys (vf f b)))] := by
 have hv := zx0 f b
 have hN := f.nodes_eq
 have hW := f.wt_eq
 rw [Fm.forms_eq, Bool.and_eq_true] at hf
 simp only [fmD, zaa]
 refine zvk Tryz.call183 Tryz.func183 rfl (by kernel_rfl) (by simp only [List.length_cons, List.length_nil, Tryz.ntmps183]; omega) (by simp [zb6, T.isPin]) ?_
 simp -implicitDefEqProofs only [go_sem, Tryz.results183]
 by_cases h3 : f.op = 3
 ·obtain ⟨ha, hp⟩ := zib hf.1 h3
  obtain ⟨ev, ene⟩ := qjz ha
  have e3 : (f.op == 3) = true := by simp [h3]
  rw [if_pos e3] at hv
  have hvl := zoj f.atom
  have HV := zsq f.atom ene (by omega) (by rw [ev]; omega)
  rw [ev] at HV
  have hPl := zcr (voS f.atom) []
  generalize zba [] (voS f.atom) = V at hv HV hPl
  rw [hv, <- zi8 b V ys]
  simp only [tmD, zab] at HV
  simp -implicitDefEqProofs only [go_sem, e3]
  refine qir (HV) (by simp -implicitDefEqProofs only [go_sem]) ?_
  simp -implicitDefEqProofs only [go_sem]
  refine zad (fun k : Nat => hd [(0, .one (.ow 0 0)), (2, .one (.rn (zcm b))), (16, .one (.rn (zcm V))), (17, vI V.length), (18, vI k)] [] [(0, ⟨true, 1, ((V.take k).foldl (zgx b) ys).map fun s => [.str s], 0, true⟩)]) (fun k => k <= V.length) (fun k => V.length - k) 0 (zac ?_) (Nat.zero_le _) ?_
  ·simp -implicitDefEqProofs only [go_sem]
   rfl
  ·intro k hk
   by_cases hlt : k < V.length
   ·have hL := zmk b (V.take k) ys
    rw [List.length_take] at hL
    have hnx := zgd (zgx b) V ys k hlt
    simp only [List.length_nil] at hPl
    simp -implicitDefEqProofs only [go_sem, zaf, hlt]
    refine callF (zcv b V[k]) (by simp -implicitDefEqProofs only [go_sem]) ?_
    simp -implicitDefEqProofs only [go_sem]
    refine ⟨fun h => ?_, fun h => ?_⟩
    ·refine callF (zcv ((V.take k).foldl (zgx b) ys) V[k]) (by simp -implicitDefEqProofs only [go_sem]) ?_
     simp -implicitDefEqProofs only [go_sem]
     have hy2 : ((V.take k).foldl (zgx b) ys).length <= 4294967295 := by omega
     refine ⟨fun h2 => ?_, fun h2 => ?_⟩
     ·refine zal (by simp -implicitDefEqProofs only [go_sem]) ?_
      simp -implicitDefEqProofs only [go_sem]
      refine apD true (by simp -implicitDefEqProofs only [go_sem, hy2, ne_eq, List.length_map]) ?_
      simp -implicitDefEqProofs only [go_sem, hy2, ne_eq, List.length_map]
      refine ⟨k + 1, hlt, by omega, zac ?_⟩
      simp -implicitDefEqProofs only [go_sem]
      rw [zas (by omega), hnx, qbz h h2]
      exact ⟨rfl, by simp⟩
     ·refine ⟨k + 1, hlt, by omega, zac ?_⟩
      simp -implicitDefEqProofs only [go_sem]
      rw [zas (by omega), hnx, qhq h2]
      exact ⟨rfl, rfl⟩
    ·refine ⟨k + 1, hlt, by omega, zac ?_⟩
     simp -implicitDefEqProofs only [go_sem]
     rw [zas (by omega), hnx, qk6 h]
     exact ⟨rfl, rfl⟩
   ·simp -implicitDefEqProofs only [go_sem, hlt]
    exact Or.inl (by rw [List.take_of_length_le (by omega)])
 ·have e3 : (f.op == 3) = false := by simp [h3]
  rw [e3, if_neg (by simp)] at hv
  simp -implicitDefEqProofs only [go_sem, e3]
  refine callF (zar f.op) (by simp -implicitDefEqProofs only [go_sem]) ?_
  simp -implicitDefEqProofs only [go_sem]
  refine ⟨fun h => ?_, fun h => ?_⟩
  ·rw [if_pos h] at hv
   rw [hv] at hs ⊢
   have hb1 : b.length <= 4294967295 := by omega
   refine drawn (by kernel_rfl) ?_
   simp -implicitDefEqProofs only [go_sem]
   refine zan (zxo b (by omega)) (by simp -implicitDefEqProofs only [go_sem]) ?_
   simp -implicitDefEqProofs only [go_sem]
   refine zbp (by simp -implicitDefEqProofs only [go_sem]) ?_
   simp -implicitDefEqProofs only [go_sem]
   refine zpc true (by simp -implicitDefEqProofs only [go_sem, hb1, ne_eq, List.length_map]) ?_
   simp -implicitDefEqProofs only [go_sem, hb1, ne_eq, List.length_map]
   refine ⟨by kernel_rfl, ?_⟩
   refine zad (fun k : Nat => hd [(0, .one (.ow 0 0)), (2, .one (.rn (zcm (b ++ [f.var])))), (48, .one (.rn (fmS f.parts))), (49, vI f.parts.length), (50, vI k)] [] [(0, ⟨true, 1, (zc6 ys ((f.parts.take k).map fun x => vf x ((b ++ [f.var]))).flatten).map fun s => [.str s], 0, true⟩)]) (fun k => k <= f.parts.length) (fun k => f.parts.length - k) 0 (zac ?_) (Nat.zero_le _) ?_
   ·simp -implicitDefEqProofs only [go_sem]
    exact ⟨by simp, rfl⟩
   ·intro k hk
    by_cases hlt : k < f.parts.length
    ·have hq := zca (fun x => vf x ((b ++ [f.var]))) f.parts k hlt
     have hL := zeg ((f.parts.take k).map fun x => vf x ((b ++ [f.var]))).flatten ys
     have hnx := zbu Fm.nodes f.parts _ (List.getElem_mem hlt)
     have HC := H f.parts[k] (List.getElem_mem hlt) (zc6 ys ((f.parts.take k).map fun x => vf x ((b ++ [f.var]))).flatten) ((b ++ [f.var])) (by omega) (by simp only [List.length_append, List.length_cons, List.length_nil]; omega)
     rw [<- zhk, <- zc9 (fun x => vf x ((b ++ [f.var]))) f.parts k hlt] at HC
     simp only [fmD, zaa f.parts[k]] at HC
     simp -implicitDefEqProofs only [go_sem, zaf, hlt, zaa f.parts[k]]
     refine zdw [2, 48, 49, 50] [54, 55, 56] [] (HC) (by simp -implicitDefEqProofs only [go_sem]) (by simp -implicitDefEqProofs only [go_sem]) (by simp -implicitDefEqProofs only [go_sem]) (by simp -implicitDefEqProofs only [go_sem]) ?_
     simp -implicitDefEqProofs only [go_sem]
     refine ⟨k + 1, hlt, by omega, zde 0 1824 ?_⟩
     simp -implicitDefEqProofs only [go_sem]
     rw [zas (by omega)]
    ·simp -implicitDefEqProofs only [go_sem, hlt]
     exact Or.inl (by rw [List.take_of_length_le (by omega)])
  ·rw [h, if_neg (by simp)] at hv
   rw [hv] at hs ⊢
   refine zad (fun k : Nat => hd [(0, .one (.ow 0 0)), (2, .one (.rn (zcm b))), (48, .one (.rn (fmS f.parts))), (49, vI f.parts.length), (50, vI k)] [] [(0, ⟨true, 1, (zc6 ys ((f.parts.take k).map fun x => vf x (b)).flatten).map fun s => [.str s], 0, true⟩)]) (fun k => k <= f.parts.length) (fun k => f.parts.length - k) 0 (zac ?_) (Nat.zero_le _) ?_
   ·simp -implicitDefEqProofs only [go_sem]
    rfl
   ·intro k hk
    by_cases hlt : k < f.parts.length
    ·have hq := zca (fun x => vf x (b)) f.parts k hlt
     have hL := zeg ((f.parts.take k).map fun x => vf x (b)).flatten ys
     have hnx := zbu Fm.nodes f.parts _ (List.getElem_mem hlt)
     have HC := H f.parts[k] (List.getElem_mem hlt) (zc6 ys ((f.parts.take k).map fun x => vf x (b)).flatten) (b) (by omega) (by omega)
     rw [<- zhk, <- zc9 (fun x => vf x (b)) f.parts k hlt] at HC
     simp only [fmD, zaa f.parts[k]] at HC
     simp -implicitDefEqProofs only [go_sem, zaf, hlt, zaa f.parts[k]]
     refine zdw [2, 48, 49, 50] [54, 55, 56] [] (HC) (by simp -implicitDefEqProofs only [go_sem]) (by simp -implicitDefEqProofs only [go_sem]) (by simp -implicitDefEqProofs only [go_sem]) (by simp -implicitDefEqProofs only [go_sem]) ?_
     simp -implicitDefEqProofs only [go_sem]
     refine ⟨k + 1, hlt, by omega, zde 0 1824 ?_⟩
     simp -implicitDefEqProofs only [go_sem]
     rw [zas (by omega)]
    ·simp -implicitDefEqProofs only [go_sem, hlt]
     exact Or.inl (by rw [List.take_of_length_le (by omega)])
theorem qgx : ∀ f : Fm, f.forms = true -> f.wt <= 1048576 -> ∀ ys b : List Str, ys.length + (vf f b).length <= 1073741824 -> b.length + f.nodes <= 1073741824 -> GC Tryz.prog 183 [(true, .one (zcm ys)), (false, fmD f), (false, .one (zcm b))] [.one (zcm (zc6 ys (vf f b)))] :=
 zcb fun o a v ps ih hf hw ys b hs hb => zz7 (.mk o a v ps) hf hw (fun x hx ys b hs hb => ih x hx (by rw [Fm.forms_eq, Bool.and_eq_true] at hf; exact List.all_eq_true.1 hf.2 x hx) (Nat.le_trans (zct (a := .mk o a v ps) hx) hw) ys b hs hb) ys b hs hb
theorem qjl (f : Fm) (hf : f.forms = true) (hw : f.wt <= 1048576) : FC Tryz.prog 117 [fmD f] [.one (zcm (zba [] (vf f [])))] := by
 have h1 := zws f []
 have h2 := zei f
 have HC := qgx f hf hw [] [] (by simp only [List.length_nil]; omega) (by simp only [List.length_nil]; omega)
 have HS := zqo (zc6 [] (vf f [])) (by have := zeg (vf f []) []; simp only [List.length_nil] at this; omega)
 rw [zuz] at HS
 simp only [fmD, zaa] at HC ⊢
 refine zg1 Tryz.call117 Tryz.func117 rfl (by kernel_rfl) (zau (by kernel_rfl)) ?_
 simp -implicitDefEqProofs only [go_sem, Tryz.results117]
 refine zal (by simp -implicitDefEqProofs only [go_sem]) ?_
 simp -implicitDefEqProofs only [go_sem]
 refine zdw [] [4, 5] [] (HC) (by simp -implicitDefEqProofs only [go_sem]) (by simp -implicitDefEqProofs only [go_sem]) (by simp -implicitDefEqProofs only [go_sem]) (by simp -implicitDefEqProofs only [go_sem]) ?_
 simp -implicitDefEqProofs only [go_sem]
 refine qjj (HS) (by simp -implicitDefEqProofs only [go_sem, zc5]) (by simp -implicitDefEqProofs only [go_sem, zc5]) rfl ?_
 simp -implicitDefEqProofs only [go_sem, zc5]
def zi0 (b l : List Str) (s : Str) : List Str := if (!b.contains s) = true then zu1 l s else l
theorem zjj (b : List Str) : ∀ (ss l : List Str), ss.foldl (zi0 b) l = zba l (ss.filter fun s => !b.contains s)
 | [], l => rfl
 | s :: ss, l => by
  rw [List.foldl_cons, zjj b ss, List.filter_cons]
  unfold zi0
  by_cases h : b.contains s = true
  ·rw [h]; simp
  ·have h : b.contains s = false := by simpa using h
   rw [h, if_pos (show (!false) = true from rfl), if_pos (show (!false) = true from rfl)]
   rfl
theorem qar (b l : List Str) (s : Str) : (zi0 b l s).length <= l.length + 1 := by
 unfold zi0
 split
 ·exact zve l s
 ·omega
theorem zmh (b : List Str) : ∀ (ss l : List Str), (ss.foldl (zi0 b) l).length <= l.length + ss.length
 | [], l => by simp
 | s :: ss, l => by have := zmh b ss (zi0 b l s); have := qar b l s; simp only [List.foldl_cons, List.length_cons] at *; omega
theorem qci {b l : List Str} {s : Str} (h : (!b.contains s) = true) : zi0 b l s = zu1 l s := if_pos h
theorem qkh {b l : List Str} {s : Str} (h : (!b.contains s) = false) : zi0 b l s = l := by unfold zi0; rw [h]; rfl
set_option maxHeartbeats 2000000 in
theorem qdk (f : Fm) (hf : f.forms = true) (hw : f.wt <= 1048576) (H : ∀ x ∈ f.parts, ∀ ys b : List Str, ys.length + (vf x b).length <= 1073741824 -> b.length + x.nodes <= 1073741824 -> GC Tryz.prog 226 [(true, .one (zcm ys)), (false, fmD x), (false, .one (zcm b))] [.one (zcm (zba ys (vf x b)))])
  (ys b : List Str) (hs : ys.length + (vf f b).length <= 1073741824) (hb : b.length + f.nodes <= 1073741824) : GC Tryz.prog 226 [(true, .one (zcm ys)), (false, fmD f), (false, .one (zcm b))] [.one (zcm (zba ys (vf f b)))] := by
 have hv := zx0 f b
 have hN := f.nodes_eq
 have hW := f.wt_eq
 rw [Fm.forms_eq, Bool.and_eq_true] at hf
 simp only [fmD, zaa]
 refine zvk Tryz.call226 Tryz.func226 rfl (by kernel_rfl) (by simp only [List.length_cons, List.length_nil, Tryz.ntmps226]; omega) (by simp [zb6, T.isPin]) ?_
 simp -implicitDefEqProofs only [go_sem, Tryz.results226]
 by_cases h3 : f.op = 3
 ·obtain ⟨ha, hp⟩ := zib hf.1 h3
  have e3 : (f.op == 3) = true := by simp [h3]
  have e8 : (f.op == 8) = false := by simp [h3]
  have e9 : (f.op == 9) = false := by simp [h3]
  rw [if_pos e3] at hv
  have hvl := zoj f.atom
  have HV := zvj f.atom (by omega) (by omega)
  have hPl := zcr (voS f.atom) []
  generalize zba [] (voS f.atom) = V at hv HV hPl
  simp only [List.length_nil] at hPl
  rw [hv, <- zjj b V ys]
  simp only [tmD, zab] at HV
  simp -implicitDefEqProofs only [go_sem, e3]
  refine qir (HV) (by simp -implicitDefEqProofs only [go_sem]) ?_
  simp -implicitDefEqProofs only [go_sem]
  refine zad (fun k : Nat => hd [(0, .one (.ow 0 0)), (2, .one (.rn (zcm b))), (4, .one (.bx 4 0)), (7, .one (.rn (zcm V))), (8, vI k)] [(4, [.t (.int .i64 f.op), .t (.str f.atom.name), .rn (tmS f.atom.args), .t (.str f.var), .rn (fmS f.parts)])] [(0, ⟨true, 1, ((V.take k).foldl (zi0 b) ys).map fun s => [.str s], 0, true⟩)]) (fun k => k <= V.length) (fun k => V.length - k) 0 (zac ?_) (Nat.zero_le _) ?_
  ·simp -implicitDefEqProofs only [go_sem]
   rfl
  ·intro k hk
   by_cases hlt : k < V.length
   ·have hL := zmh b (V.take k) ys
    rw [List.length_take] at hL
    have hnx := zgd (zi0 b) V ys k hlt
    simp -implicitDefEqProofs only [go_sem, zaf, hlt]
    refine callF (zun b V[k]) (by simp -implicitDefEqProofs only [go_sem]) ?_
    simp -implicitDefEqProofs only [go_sem]
    refine ⟨fun h => ?_, fun h => ?_⟩
    ·simp -implicitDefEqProofs only [go_sem, zaf, hlt]
     refine zdw [2, 4, 7, 8] [29, 33] [] (qa4 ((V.take k).foldl (zi0 b) ys) V[k] (by omega)) (by simp -implicitDefEqProofs only [go_sem]) (by simp -implicitDefEqProofs only [go_sem]) (by simp -implicitDefEqProofs only [go_sem]) (by simp -implicitDefEqProofs only [go_sem]) ?_
     simp -implicitDefEqProofs only [go_sem]
     refine ⟨k + 1, hlt, by omega, zde 0 1088 ?_⟩
     simp -implicitDefEqProofs only [go_sem]
     rw [zas (by omega), hnx, qci h]
     exact ⟨rfl, rfl⟩
    ·refine ⟨k + 1, hlt, by omega, zac ?_⟩
     simp -implicitDefEqProofs only [go_sem]
     rw [zas (by omega), hnx, qkh h]
     exact ⟨rfl, rfl⟩
   ·rw [List.take_of_length_le (by omega)]
    have hr : ∃ R, V.foldl (zi0 b) ys = R := ⟨_, rfl⟩
    obtain ⟨R, hR⟩ := hr
    rw [hR]
    simp -implicitDefEqProofs only [go_sem, hlt, e8, e9]
    refine zad (fun k : Nat => hd [(0, .one (.ow 0 0)), (2, .one (.rn (zcm b))), (4, .one (.bx 4 0)), (9, vI k)] [(4, [.t (.int .i64 f.op), .t (.str f.atom.name), .rn (tmS f.atom.args), .t (.str f.var), .rn (fmS f.parts)])] [(0, ⟨true, 1, R.map fun s => [.str s], 0, true⟩)]) (fun k => k = 0) (fun k => 0) 0 (zac ?_) rfl ?_
    ·simp -implicitDefEqProofs only [go_sem]
    ·rintro k rfl
     have hp0 : f.parts.length = 0 := by rw [hp]; rfl
     simp -implicitDefEqProofs only [go_sem, hp0]
 ·have e3 : (f.op == 3) = false := by simp [h3]
  rw [e3, if_neg (by simp)] at hv
  by_cases hq8 : isQ f.op = true
  ·rw [if_pos hq8] at hv
   rw [hv] at hs ⊢
   have hb1 : b.length <= 4294967296 := by omega
   have hb2 : b.length <= 4294967295 := by omega
   have key : (f.op == 8) = true \/ ((f.op == 8) = false /\ (f.op == 9) = true) := by
    unfold isQ at hq8
    cases h8 : f.op == 8
    ·rw [h8, Bool.false_or] at hq8; exact Or.inr ⟨rfl, hq8⟩
    ·exact Or.inl rfl
   rcases key with e8 | ⟨e8, e9⟩
   ·simp -implicitDefEqProofs only [go_sem, e3, e8]
    refine drawn (by kernel_rfl) ?_
    simp -implicitDefEqProofs only [go_sem]
    refine zbp (by simp -implicitDefEqProofs only [go_sem]) ?_
    simp -implicitDefEqProofs only [go_sem]
    refine zpc true (by simp -implicitDefEqProofs only [go_sem, hb1, zc5, ne_eq, List.length_map, Nat.zero_add]) ?_
    simp -implicitDefEqProofs only [go_sem, hb1, zc5, ne_eq, List.length_map, Nat.zero_add]
    refine zbp (by simp -implicitDefEqProofs only [go_sem]) ?_
    simp -implicitDefEqProofs only [go_sem]
    refine zpc true (by simp -implicitDefEqProofs only [go_sem, hb2, ne_eq, List.length_map]) ?_
    simp -implicitDefEqProofs only [go_sem, hb2, ne_eq, List.length_map]
    refine ⟨by kernel_rfl, ?_⟩
    refine zad (fun k : Nat => hd [(0, .one (.ow 0 0)), (2, .one (.rn (zcm (b ++ [f.var])))), (4, .one (.bx 4 0)), (9, vI k)] [(4, [.t (.int .i64 f.op), .t (.str f.atom.name), .rn (tmS f.atom.args), .t (.str f.var), .rn (fmS f.parts)])] [(0, ⟨true, 1, (zba ys ((f.parts.take k).map fun x => vf x ((b ++ [f.var]))).flatten).map fun s => [.str s], 0, true⟩)]) (fun k => k <= f.parts.length) (fun k => f.parts.length - k) 0 (zac ?_) (Nat.zero_le _) ?_
    ·simp -implicitDefEqProofs only [go_sem]
     exact ⟨by simp, rfl⟩
    ·intro k hk
     by_cases hlt : k < f.parts.length
     ·have hq := zca (fun x => vf x ((b ++ [f.var]))) f.parts k hlt
      have hL := zcr ((f.parts.take k).map fun x => vf x ((b ++ [f.var]))).flatten ys
      have hnx := zbu Fm.nodes f.parts _ (List.getElem_mem hlt)
      have HC := H f.parts[k] (List.getElem_mem hlt) (zba ys ((f.parts.take k).map fun x => vf x ((b ++ [f.var]))).flatten) ((b ++ [f.var])) (by omega) (by simp only [List.length_append, List.length_cons, List.length_nil]; omega)
      rw [<- ze4, <- zc9 (fun x => vf x ((b ++ [f.var]))) f.parts k hlt] at HC
      simp only [fmD, zaa f.parts[k]] at HC
      simp -implicitDefEqProofs only [go_sem, zaf, hlt, zaa f.parts[k]]
      refine zdw [2, 4, 9] [57, 62, 63] [] (HC) (by simp -implicitDefEqProofs only [go_sem]) (by simp -implicitDefEqProofs only [go_sem]) (by simp -implicitDefEqProofs only [go_sem]) (by simp -implicitDefEqProofs only [go_sem]) ?_
      simp -implicitDefEqProofs only [go_sem]
      refine ⟨k + 1, hlt, by omega, zde 0 2048 ?_⟩
      simp -implicitDefEqProofs only [go_sem]
      rw [zas (by omega)]
     ·simp -implicitDefEqProofs only [go_sem, hlt]
      exact Or.inl (by rw [List.take_of_length_le (by omega)])
   ·simp -implicitDefEqProofs only [go_sem, e3, e8, e9]
    refine drawn (by kernel_rfl) ?_
    simp -implicitDefEqProofs only [go_sem]
    refine zbp (by simp -implicitDefEqProofs only [go_sem]) ?_
    simp -implicitDefEqProofs only [go_sem]
    refine zpc true (by simp -implicitDefEqProofs only [go_sem, hb1, zc5, ne_eq, List.length_map, Nat.zero_add]) ?_
    simp -implicitDefEqProofs only [go_sem, hb1, zc5, ne_eq, List.length_map, Nat.zero_add]
    refine zbp (by simp -implicitDefEqProofs only [go_sem]) ?_
    simp -implicitDefEqProofs only [go_sem]
    refine zpc true (by simp -implicitDefEqProofs only [go_sem, hb2, ne_eq, List.length_map]) ?_
    simp -implicitDefEqProofs only [go_sem, hb2, ne_eq, List.length_map]
    refine ⟨by kernel_rfl, ?_⟩
    refine zad (fun k : Nat => hd [(0, .one (.ow 0 0)), (2, .one (.rn (zcm (b ++ [f.var])))), (4, .one (.bx 4 0)), (9, vI k)] [(4, [.t (.int .i64 f.op), .t (.str f.atom.name), .rn (tmS f.atom.args), .t (.str f.var), .rn (fmS f.parts)])] [(0, ⟨true, 1, (zba ys ((f.parts.take k).map fun x => vf x ((b ++ [f.var]))).flatten).map fun s => [.str s], 0, true⟩)]) (fun k => k <= f.parts.length) (fun k => f.parts.length - k) 0 (zac ?_) (Nat.zero_le _) ?_
    ·simp -implicitDefEqProofs only [go_sem]
     exact ⟨by simp, rfl⟩
    ·intro k hk
     by_cases hlt : k < f.parts.length
     ·have hq := zca (fun x => vf x ((b ++ [f.var]))) f.parts k hlt
      have hL := zcr ((f.parts.take k).map fun x => vf x ((b ++ [f.var]))).flatten ys
      have hnx := zbu Fm.nodes f.parts _ (List.getElem_mem hlt)
      have HC := H f.parts[k] (List.getElem_mem hlt) (zba ys ((f.parts.take k).map fun x => vf x ((b ++ [f.var]))).flatten) ((b ++ [f.var])) (by omega) (by simp only [List.length_append, List.length_cons, List.length_nil]; omega)
      rw [<- ze4, <- zc9 (fun x => vf x ((b ++ [f.var]))) f.parts k hlt] at HC
      simp only [fmD, zaa f.parts[k]] at HC
      simp -implicitDefEqProofs only [go_sem, zaf, hlt, zaa f.parts[k]]
      refine zdw [2, 4, 9] [57, 62, 63] [] (HC) (by simp -implicitDefEqProofs only [go_sem]) (by simp -implicitDefEqProofs only [go_sem]) (by simp -implicitDefEqProofs only [go_sem]) (by simp -implicitDefEqProofs only [go_sem]) ?_
      simp -implicitDefEqProofs only [go_sem]
      refine ⟨k + 1, hlt, by omega, zde 0 2048 ?_⟩
      simp -implicitDefEqProofs only [go_sem]
      rw [zas (by omega)]
     ·simp -implicitDefEqProofs only [go_sem, hlt]
      exact Or.inl (by rw [List.take_of_length_le (by omega)])
  ·have hq : isQ f.op = false := by simpa using hq8
   rw [hq, if_neg (by simp)] at hv
   rw [hv] at hs ⊢
   unfold isQ at hq
   rw [Bool.or_eq_false_iff] at hq
   obtain ⟨e8, e9⟩ := hq
   simp -implicitDefEqProofs only [go_sem, e3, e8, e9]
   refine zad (fun k : Nat => hd [(0, .one (.ow 0 0)), (2, .one (.rn (zcm b))), (4, .one (.bx 4 0)), (9, vI k)] [(4, [.t (.int .i64 f.op), .t (.str f.atom.name), .rn (tmS f.atom.args), .t (.str f.var), .rn (fmS f.parts)])] [(0, ⟨true, 1, (zba ys ((f.parts.take k).map fun x => vf x (b)).flatten).map fun s => [.str s], 0, true⟩)]) (fun k => k <= f.parts.length) (fun k => f.parts.length - k) 0 (zac ?_) (Nat.zero_le _) ?_
   ·simp -implicitDefEqProofs only [go_sem]
    rfl
   ·intro k hk
    by_cases hlt : k < f.parts.length
    ·have hq := zca (fun x => vf x (b)) f.parts k hlt
     have hL := zcr ((f.parts.take k).map fun x => vf x (b)).flatten ys
     have hnx := zbu Fm.nodes f.parts _ (List.getElem_mem hlt)
     have HC := H f.parts[k] (List.getElem_mem hlt) (zba ys ((f.parts.take k).map fun x => vf x (b)).flatten) (b) (by omega) (by omega)
     rw [<- ze4, <- zc9 (fun x => vf x (b)) f.parts k hlt] at HC
     simp only [fmD, zaa f.parts[k]] at HC
     simp -implicitDefEqProofs only [go_sem, zaf, hlt, zaa f.parts[k]]
     refine zdw [2, 4, 9] [57, 62, 63] [] (HC) (by simp -implicitDefEqProofs only [go_sem]) (by simp -implicitDefEqProofs only [go_sem]) (by simp -implicitDefEqProofs only [go_sem]) (by simp -implicitDefEqProofs only [go_sem]) ?_
     simp -implicitDefEqProofs only [go_sem]
     refine ⟨k + 1, hlt, by omega, zde 0 2048 ?_⟩
     simp -implicitDefEqProofs only [go_sem]
     rw [zas (by omega)]
    ·simp -implicitDefEqProofs only [go_sem, hlt]
     exact Or.inl (by rw [List.take_of_length_le (by omega)])
theorem zwl : ∀ f : Fm, f.forms = true -> f.wt <= 1048576 -> ∀ ys b : List Str, ys.length + (vf f b).length <= 1073741824 -> b.length + f.nodes <= 1073741824 -> GC Tryz.prog 226 [(true, .one (zcm ys)), (false, fmD f), (false, .one (zcm b))] [.one (zcm (zba ys (vf f b)))] :=
 zcb fun o a v ps ih hf hw ys b hs hb => qdk (.mk o a v ps) hf hw (fun x hx ys b hs hb => ih x hx (by rw [Fm.forms_eq, Bool.and_eq_true] at hf; exact List.all_eq_true.1 hf.2 x hx) (Nat.le_trans (zct (a := .mk o a v ps) hx) hw) ys b hs hb) ys b hs hb
theorem qhb (f : Fm) (hf : f.forms = true) (hw : f.wt <= 1048576) : FC Tryz.prog 159 [fmD f] [.one (zcm (zba [] (vf f [])))] := by
 have h1 := zws f []
 have h2 := zei f
 have HC := zwl f hf hw [] [] (by simp only [List.length_nil]; omega) (by simp only [List.length_nil]; omega)
 simp only [fmD, zaa] at HC ⊢
 refine zg1 Tryz.call159 Tryz.func159 rfl (by kernel_rfl) (zau (by kernel_rfl)) ?_
 simp -implicitDefEqProofs only [go_sem, Tryz.results159]
 refine zal (by simp -implicitDefEqProofs only [go_sem]) ?_
 simp -implicitDefEqProofs only [go_sem]
 refine zal (by simp -implicitDefEqProofs only [go_sem]) ?_
 simp -implicitDefEqProofs only [go_sem]
 refine frzO 160 rfl rfl ?_
 simp -implicitDefEqProofs only [go_sem]
 refine zdw [] [3, 4, 5] [] (HC) (by simp -implicitDefEqProofs only [go_sem, zcm, List.map_nil]) (by simp -implicitDefEqProofs only [go_sem, zcm, List.map_nil]) (by simp -implicitDefEqProofs only [go_sem, zcm, List.map_nil]) (by simp -implicitDefEqProofs only [go_sem, zcm, List.map_nil]) ?_
 simp -implicitDefEqProofs only [go_sem, zcm, List.map_nil]
end Go.Proofs.YtemnhgmgeijkcaaGreat
namespace Go.Proofs.YtemnhgmgeijkcaaGreat
set_option linter.unusedSimpArgs false
set_option linter.unusedVariables false
set_option linter.unusedSectionVars false
set_option maxRecDepth 4000
open Go.RowKit
variable {P : Program}
inductive AF
 | d (b : Bool) (x : D)
 | p (j : Nat)
 | fn (g : FuncId) (js : List Nat)
def AF.ds : List AF -> List (Bool × D)
 | [] => []
 | .d b x :: l => (b, x) :: AF.ds l
 | .p _ :: l => AF.ds l
 | .fn _ _ :: l => AF.ds l
def qex (b : Nat) : Value := .pointer (some ⟨b, 0, none⟩)
def AF.vals (bs : Nat -> Nat) : List AF -> List Value -> List Value
 | [], _ => []
 | .d _ _ :: l, v :: vs => v :: AF.vals bs l vs
 | .d _ _ :: _, [] => []
 | .p j :: l, vs => qex (bs j) :: AF.vals bs l vs
 | .fn g js :: l, vs => .func (.func g) #[] ⟨js.map fun j => qex (bs j)⟩ :: AF.vals bs l vs
def AF.okJ (n : Nat) : List AF -> Bool
 | [] => true
 | .d _ _ :: l => AF.okJ n l
 | .p j :: l => decide (j < n) && AF.okJ n l
 | .fn _ js :: l => js.all (fun j => decide (j < n)) && AF.okJ n l
abbrev Bxs := List (List (Bool × T))
def zyx (w : World) (bs : Nat -> Nat) : Nat -> List (List Value) -> Bxs -> Prop
 | _, [], [] => True
 | j, vs :: bvs, b :: bx => vs.length = b.length /\ (∃ ty, w.heap[bs j]? = some (.cells ⟨vs⟩ ty (0, 0))) /\ zyx w bs (j + 1) bvs bx
 | _, _, _ => False
theorem zyx.lt {w : World} {bs : Nat -> Nat} : ∀ {j : Nat} {bvs : List (List Value)} {bx : Bxs}, zyx w bs j bvs bx -> ∀ i, i < bx.length -> bs (j + i) < w.heap.size
 | _, [], [], _, i, hi => by simp at hi
 | j, _ :: _, _ :: _, h, 0, hi => by obtain ⟨ty, h⟩ := h.2.1; exact (Array.getElem?_eq_some_iff.1 h).1
 | j, _ :: _, _ :: _, h, i + 1, hi => by rw [show j + (i + 1) = j + 1 + i by omega]; exact zyx.lt h.2.2 i (by simpa using hi)
 | _, [], _ :: _, h, _, _ => h.elim
 | _, _ :: _, [], h, _, _ => h.elim
def PC (P : Program) (f : FuncId) (bx : Bxs) (l : List AF) (bx' : Bxs) (res : List (Bool × D)) : Prop := zbr P f /\ bx'.length = bx.length /\ ∀ (w : World) (bs : Nat -> Nat) (bvs : List (List Value)) (dvs : List Value) (fp tp : List Nat) (A : Nat -> Prop),
 (∀ i j, i < bx.length -> j < bx.length -> bs i = bs j -> i = j) -> (∀ j, j < bx.length -> bs j ∉ fp) -> zyx w bs 0 bvs bx →
 za5 w (fun k => (k < w.heap.size /\ k ∉ fp /\ ∀ j, j < bx.length -> k ≠ bs j) /\ A k) (AF.ds l ++ bxA bx.flatten) (dvs ++ bvs.flatten) fp tp -> fp.Nodup -> dvs.length = (AF.ds l).length →
 Calls P f ⟨AF.vals bs l dvs⟩ w fun e w' => ∃ us bvs' fp' tp', e = .returned (zcp us) /\ zyx w' bs 0 bvs' bx' /\ us.length = res.length ∧
  za5 w' (fun k => (k < w'.heap.size /\ k ∉ fp' /\ ∀ j, j < bx.length -> k ≠ bs j) /\ (A k \/ w.heap.size <= k \/ k ∈ fp)) (res ++ bxA bx'.flatten) (us ++ bvs'.flatten) fp' tp' /\ fp'.Nodup /\ (∀ b ∈ fp', b ∈ fp \/ w.heap.size <= b) ∧
  Bk (fun k => k < w.heap.size /\ k ∉ fp /\ ∀ j, j < bx.length -> k ≠ bs j) w w'
def c1P (k : Nat) : Bool × T -> C
 | (true, t) => owC k 0 t
 | (false, t) => t.toN
def zvw : Nat -> List (Bool × T) -> List C
 | _, [] => []
 | k, p :: ps => c1P k p :: zvw (k + 1) ps
def zlb : Nat -> Nat -> Bxs -> Nat -> Option (List C)
 | _, _, [] => fun _ => none
 | j, k, b :: bs => upd (zlb (j + 1) (k + b.length) bs) (1000000 + j) (some (zvw k b))
def zdm : Nat -> Nat -> List AF -> Nat -> V
 | _, _, [] => fun _ => .one .any
 | i, k, .d b x :: l => upd (zdm (i + 1) (k + 1) l) i (gVN k (b, x))
 | i, k, .p j :: l => upd (zdm (i + 1) k l) i (.one (.bx (1000000 + j) 0))
 | i, k, .fn g js :: l => upd (zdm (i + 1) k l) i (.one (.fn g (js.map (1000000 + ·))))
def zjh : Nat -> Bxs -> (Nat -> V) -> Nat -> V
 | _, [], f => f
 | j, _ :: bs, f => upd (zjh (j + 1) bs f) (1000000 + j) (.one (.bx (1000000 + j) 0))
def zim (l : List AF) (bx : Bxs) : St := ⟨zjh 0 bx (zdm 0 0 l), zlb 0 (AF.ds l).length bx, zhd 0 (AF.ds l ++ bxA bx.flatten)⟩
theorem qlb (k : Nat) (p : Bool × T) : gVN k (p.1, .one p.2) = .one (c1P k p) := by obtain ⟨b, t⟩ := p; cases b <;> rfl
theorem zqy : ∀ (bx : Bxs) (j : Nat) (f : Nat -> V) (i : Nat), ((∃ q, q < bx.length /\ i = 1000000 + (j + q)) /\ zjh j bx f i = .one (.bx i 0)) \/ ((∀ q, q < bx.length -> i ≠ 1000000 + (j + q)) /\ zjh j bx f i = f i)
 | [], j, f, i => Or.inr ⟨fun q hq => by simp at hq, rfl⟩
 | b :: bx, j, f, i => by
  by_cases hi : i = 1000000 + j
  ·subst hi
   exact Or.inl ⟨⟨0, by simp, rfl⟩, by unfold zjh; rw [zaj]⟩
  ·unfold zjh
   rw [zaq _ _ hi]
   rcases zqy bx (j + 1) f i with ⟨⟨q, h1, h2⟩, h3⟩ | ⟨h1, h2⟩
   ·exact Or.inl ⟨⟨q + 1, by simp; omega, by omega⟩, h3⟩
   ·refine Or.inr ⟨fun q hq => ?_, h2⟩
    cases q with
    | zero => exact hi
    | succ q => have := h1 q (by simpa using hq); omega
theorem zph : ∀ (bx : Bxs) (j k b : Nat), zlb j k bx b ≠ none ↔ ∃ q, q < bx.length /\ b = 1000000 + (j + q)
 | [], j, k, b => ⟨fun h => absurd rfl h, fun ⟨q, hq, _⟩ => by simp at hq⟩
 | c :: bx, j, k, b => by
  unfold zlb
  by_cases hi : b = 1000000 + j
  ·subst hi; rw [zaj]; exact ⟨fun _ => ⟨0, by simp, rfl⟩, fun _ => by simp⟩
  ·rw [zaq _ _ hi, zph bx (j + 1) _ b]
   refine ⟨fun ⟨q, h1, h2⟩ => ⟨q + 1, by simp; omega, by omega⟩, fun ⟨q, h1, h2⟩ => ?_⟩
   cases q with
   | zero => exact absurd h2 hi
   | succ q => exact ⟨q, by simpa using h1, by omega⟩
theorem zm5 {σ : St} {g : Gh} {w : World} : ∀ {b : List (Bool × T)} {vs : List Value} {k : Nat}, vs.length = b.length -> (∀ i p v, b[i]? = some p -> vs[i]? = some v -> CR σ g w (c1P (k + i) p) v) -> CRs σ g w (zvw k b) vs
 | [], vs, _, hl, _ => List.length_eq_zero_iff.1 hl
 | p :: b, [], _, hl, _ => by simp at hl
 | p :: b, v :: vs, k, hl, h => ⟨v, vs, rfl, by simpa using h 0 p v rfl rfl, zm5 (by simpa using hl) fun i q u h1 h2 => by
   have := h (i + 1) q u (by simpa using h1) (by simpa using h2)
   rw [show k + (i + 1) = k + 1 + i by omega] at this
   exact this⟩
theorem zps {σ : St} {g : Gh} {w : World} {bs : Nat -> Nat} : ∀ (bx : Bxs) (bvs : List (List Value)) (j k : Nat), zyx w bs j bvs bx -> (∀ i p v, bx.flatten[i]? = some p -> bvs.flatten[i]? = some v -> CR σ g w (c1P (k + i) p) v) →
  ∀ b cs, zlb j k bx b = some cs -> ∃ q vs ty, q < bx.length /\ b = 1000000 + (j + q) /\ w.heap[bs (j + q)]? = some (.cells ⟨vs⟩ ty (0, 0)) /\ CRs σ g w cs vs
 | [], _, _, _, _, _, b, cs, h => by cases h
 | c :: bx, [], _, _, h0, _, _, _, _ => h0.elim
 | c :: bx, vs :: bvs, j, k, h0, hc, b, cs, h => by
  obtain ⟨h1, ⟨ty, h2⟩, h3⟩ := h0
  unfold zlb at h
  by_cases hi : b = 1000000 + j
  ·subst hi
   rw [zaj] at h
   cases h
   refine ⟨0, vs, ty, by simp, rfl, h2, zm5 h1 fun i p v e1 e2 => hc i p v ?_ ?_⟩
   ·rw [List.flatten_cons, List.getElem?_append_left (List.getElem?_eq_some_iff.1 e1).1]; exact e1
   ·rw [List.flatten_cons, List.getElem?_append_left (List.getElem?_eq_some_iff.1 e2).1]; exact e2
  ·rw [zaq _ _ hi] at h
   obtain ⟨q, vs', ty', k1, k2, k3, k4⟩ := zps bx bvs (j + 1) (k + c.length) h3 (fun i p v e1 e2 => by
    have := hc (c.length + i) p v (by rw [List.flatten_cons, List.getElem?_append_right (by omega), show c.length + i - c.length = i by omega]; exact e1) (by rw [List.flatten_cons, List.getElem?_append_right (by omega), show c.length + i - vs.length = i by omega]; exact e2)
    rw [show k + (c.length + i) = k + c.length + i by omega] at this
    exact this) b cs h
   exact ⟨q + 1, vs', ty', by simp; omega, by omega, by rw [show j + (q + 1) = j + 1 + q by omega]; exact k3, k4⟩
theorem zgs : ∀ (l : List AF) (i0 k i : Nat), l.length <= i -> zdm i0 k l (i0 + i) = .one .any
 | [], _, _, _, _ => rfl
 | a :: l, i0, k, 0, h => by simp at h
 | .d b x :: l, i0, k, i + 1, h => by unfold zdm; rw [zaq _ _ (by omega), show i0 + (i + 1) = i0 + 1 + i by omega]; exact zgs l _ _ i (by simpa using h)
 | .p j :: l, i0, k, i + 1, h => by unfold zdm; rw [zaq _ _ (by omega), show i0 + (i + 1) = i0 + 1 + i by omega]; exact zgs l _ _ i (by simpa using h)
 | .fn g js :: l, i0, k, i + 1, h => by unfold zdm; rw [zaq _ _ (by omega), show i0 + (i + 1) = i0 + 1 + i by omega]; exact zgs l _ _ i (by simpa using h)
theorem zhw {σ : St} {g : Gh} {w : World} {bs : Nat -> Nat} {n : Nat} (hb : ∀ j, j < n -> σ.bx (1000000 + j) ≠ none /\ g.β (1000000 + j) = bs j) : ∀ (l : List AF) (i0 k : Nat) (dvs : List Value), AF.okJ n l = true -> dvs.length = (AF.ds l).length -> (∀ i d v, (AF.ds l)[i]? = some d -> dvs[i]? = some v -> VR σ g w (gVN (k + i) d) v) →
  ∀ i, i < l.length -> ∃ v, (AF.vals bs l dvs)[i]? = some v /\ VR σ g w (zdm i0 k l (i0 + i)) v
 | [], _, _, _, _, _, _, i, hi => by simp at hi
 | .d b x :: l, i0, k, [], _, hl, _, i, hi => by simp [AF.ds] at hl
 | .d b x :: l, i0, k, v :: dvs, ho, hl, h, i, hi => by
  cases i with
  | zero => exact ⟨v, rfl, by unfold zdm; show VR σ g w (upd _ i0 _ i0) v; rw [zaj]; simpa using h 0 (b, x) v rfl rfl⟩
  | succ i =>
   obtain ⟨u, k1, k2⟩ := zhw hb l (i0 + 1) (k + 1) dvs ho (by simpa [AF.ds] using hl) (fun i d v h1 h2 => by
    have := h (i + 1) d v (by simpa [AF.ds] using h1) (by simpa using h2)
    rw [show k + (i + 1) = k + 1 + i by omega] at this
    exact this) i (by simpa using hi)
   exact ⟨u, by unfold AF.vals; simpa using k1, by unfold zdm; rw [zaq _ _ (by omega), show i0 + (i + 1) = i0 + 1 + i by omega]; exact k2⟩
 | .p j :: l, i0, k, dvs, ho, hl, h, i, hi => by
  unfold AF.okJ at ho
  rw [Bool.and_eq_true, decide_eq_true_eq] at ho
  cases i with
  | zero => exact ⟨_, rfl, by unfold zdm; show VR σ g w (upd _ i0 _ i0) _; rw [zaj]; exact ⟨by rw [(hb j ho.1).2]; rfl, (hb j ho.1).1⟩⟩
  | succ i =>
   obtain ⟨u, k1, k2⟩ := zhw hb l (i0 + 1) k dvs ho.2 hl h i (by simpa using hi)
   exact ⟨u, by unfold AF.vals; simpa using k1, by unfold zdm; rw [zaq _ _ (by omega), show i0 + (i + 1) = i0 + 1 + i by omega]; exact k2⟩
 | .fn f js :: l, i0, k, dvs, ho, hl, h, i, hi => by
  unfold AF.okJ at ho
  rw [Bool.and_eq_true, List.all_eq_true] at ho
  cases i with
  | zero =>
   refine ⟨_, rfl, ?_⟩
   unfold zdm
   show VR σ g w (upd _ i0 _ i0) _
   rw [zaj]
   refine ⟨?_, fun b hb' => ?_⟩
   ·rw [List.map_map]
    congr 2
    refine List.map_congr_left fun j hj => ?_
    show qex (bs j) = .pointer (some ⟨g.β (1000000 + j), 0, none⟩)
    rw [(hb j (by simpa using ho.1 j hj)).2]
    rfl
   ·obtain ⟨j, hj, rfl⟩ := List.mem_map.1 hb'
    exact (hb j (by simpa using ho.1 j hj)).1
  | succ i =>
   obtain ⟨u, k1, k2⟩ := zhw hb l (i0 + 1) k dvs ho.2 hl h i (by simpa using hi)
   exact ⟨u, by unfold AF.vals; simpa using k1, by unfold zdm; rw [zaq _ _ (by omega), show i0 + (i + 1) = i0 + 1 + i by omega]; exact k2⟩
theorem AF.vals_len (bs : Nat -> Nat) : ∀ (l : List AF) (dvs : List Value), dvs.length = (AF.ds l).length -> (AF.vals bs l dvs).length = l.length
 | [], _, _ => rfl
 | .d _ _ :: l, [], h => by simp [AF.ds] at h
 | .d _ _ :: l, v :: vs, h => by simp [AF.vals, AF.vals_len bs l vs (by simpa [AF.ds] using h)]
 | .p _ :: l, vs, h => by simp [AF.vals, AF.vals_len bs l vs h]
 | .fn _ _ :: l, vs, h => by simp [AF.vals, AF.vals_len bs l vs h]
def T.fs : T -> Bool
 | .sl _ _ => true
 | t => t.flat
def gFS : List (Bool × D) -> Bool
 | [] => true
 | (false, _) :: ds => gFS ds
 | (true, .one t) :: ds => t.fs && gFS ds
 | (true, .agg ts) :: ds => ts.all T.fs && gFS ds
theorem zu2 : ∀ {ds : List (Bool × D)}, gFS ds = true -> ∀ (i : Nat) d, ds[i]? = some (true, d) -> match d with | .one t => t.fs = true | .agg ts => ts.all T.fs = true
 | [], _, i, d, h => by simp at h
 | (false, x) :: ds, hg, 0, d, h => by simp at h
 | (false, x) :: ds, hg, i + 1, d, h => zu2 (ds := ds) hg i d (by simpa using h)
 | (true, .one t) :: ds, hg, 0, d, h => by
  simp only [List.getElem?_cons_zero, Option.some.injEq, Prod.mk.injEq, true_and] at h
  subst h
  exact ((Bool.and_eq_true _ _).mp hg).1
 | (true, .agg t) :: ds, hg, 0, d, h => by
  simp only [List.getElem?_cons_zero, Option.some.injEq, Prod.mk.injEq, true_and] at h
  subst h
  exact ((Bool.and_eq_true _ _).mp hg).1
 | (true, .one t) :: ds, hg, i + 1, d, h => zu2 (ds := ds) ((Bool.and_eq_true _ _).mp hg).2 i d (by simpa using h)
 | (true, .agg t) :: ds, hg, i + 1, d, h => zu2 (ds := ds) ((Bool.and_eq_true _ _).mp hg).2 i d (by simpa using h)
theorem zua {σ σ' : St} {g g' : Gh} {w : World} (he : σ'.ev = σ.ev) (hψ : g'.ψ = g.ψ) {k j : Nat} {t : T} {v : Value} (ht : t.fs = true) (h : CR σ g w (owC k j t) v) : CR σ' g' w (owC k j t) v := by
 cases t
 case sl => exact ⟨by rw [hψ]; exact h.1, by obtain ⟨x, h1, h2⟩ := h.2; exact ⟨x, by rw [he]; exact h1, h2⟩⟩
 all_goals exact zgp (A := Fix σ g w) (w := w) ht h
theorem zqr {σ σ' : St} {g g' : Gh} {w : World} (he : σ'.ev = σ.ev) (hψ : g'.ψ = g.ψ) {k : Nat} : ∀ {ts : List T} {j : Nat} {vs : List Value}, ts.all T.fs = true -> CRs σ g w (zn1 k j ts) vs -> CRs σ' g' w (zn1 k j ts) vs
 | [], _, _, _, h => h
 | t :: ts, j, vs, ht, h => by
  rw [List.all_cons, Bool.and_eq_true] at ht
  obtain ⟨v, vs', rfl, h1, h2⟩ := h
  exact ⟨v, vs', rfl, zua he hψ ht.1 h1, zqr he hψ ht.2 h2⟩
theorem zn0 (d : Nat) : ∀ (ts : List T) (j : Nat) (f : Nat -> Option Ev), (∀ e x, f e = some x -> x.deep = true /\ x.on = true) -> ∀ e x, owE d j ts f e = some x -> x.deep = true /\ x.on = true
 | [], _, f, h, e, x, hx => h e x hx
 | t :: ts, j, f, h, e, x, hx => zn0 d ts (j + 1) _ (fun e x hx => by
   cases t <;> first | exact h e x hx | skip
   rename_i sz rows
   by_cases he : e = d * 32 + j
   ·subst he; simp only [zsl, zaj, Option.some.injEq] at hx; subst hx; exact ⟨rfl, rfl⟩
   ·simp only [zsl, zaq _ _ he] at hx; exact h e x hx) e x hx
theorem zgm : ∀ (ds : List (Bool × D)) (k e : Nat) (x : Ev), zhd k ds e = some x -> x.deep = true /\ x.on = true
 | [], _, _, _, h => by cases h
 | (false, _) :: ds, k, e, x, h => zgm ds (k + 1) e x h
 | (true, .one t) :: ds, k, e, x, h => zn0 k [t] 0 _ (fun e x hx => zgm ds (k + 1) e x hx) e x h
 | (true, .agg ts) :: ds, k, e, x, h => zn0 k ts 0 _ (fun e x hx => zgm ds (k + 1) e x hx) e x h
theorem zy0 {w : World} {l : List AF} {bx : Bxs} {bs : Nat -> Nat} {bvs : List (List Value)} {dvs : List Value} {fp tp : List Nat} {A : Nat -> Prop} {N : Nat} (hinj : ∀ i j, i < bx.length -> j < bx.length -> bs i = bs j -> i = j) (hbf : ∀ j, j < bx.length -> bs j ∉ fp) (hbx : zyx w bs 0 bvs bx)
  (hv : za5 w (fun k => (k < w.heap.size /\ k ∉ fp /\ ∀ j, j < bx.length -> k ≠ bs j) /\ A k) (AF.ds l ++ bxA bx.flatten) (dvs ++ bvs.flatten) fp tp) (hn : fp.Nodup) (hl : dvs.length = (AF.ds l).length) (hj : AF.okJ bx.length l = true) (hN : l.length <= N) (hN2 : N <= 1000000) (hs : zb6 (AF.ds l ++ bxA bx.flatten)) (hfs : gFS (AF.ds l ++ bxA bx.flatten) = true)
  {ξ : Nat -> Value} (h1 : ∀ i, i < 1000000 -> ξ i = undef) (h2 : ∀ i b, ξ i ≠ .bool b) (h3 : ∀ j, j < bx.length -> ξ (1000000 + j) = qex (bs j)) :
  ∃ g, (g.A0, g.R0) = (fun b => A b \/ w.heap.size <= b \/ b ∈ fp \/ ∃ j, j < bx.length /\ b = bs j, ⟨fun b => b ∈ fp \/ w.heap.size <= b \/ ∃ j, j < bx.length /\ b = bs j, ξ, h1, h2⟩) ∧
   Rel (fun b => b < w.heap.size /\ b ∉ fp /\ ∀ j, j < bx.length -> b ≠ bs j) N (zim l bx) g { tmps := (⟨AF.vals bs l dvs⟩ : Array Value) ++ Array.replicate (N - (AF.vals bs l dvs).length) undef, defers := [] } w := by
 have hv' : za5 w (fun b => b < w.heap.size /\ (A b /\ ∀ j, j < bx.length -> b ≠ bs j) /\ b ∉ fp) (AF.ds l ++ bxA bx.flatten) (dvs ++ bvs.flatten) fp tp := za5.keepA (fun b hb => ⟨hb.1.1, ⟨hb.2, hb.1.2.2⟩, hb.1.2.1⟩) hv
 obtain ⟨g, hg, hR⟩ := Rel.start (N := (AF.ds l ++ bxA bx.flatten).length) (A0 := fun b => A b \/ w.heap.size <= b \/ b ∈ fp \/ ∃ j, j < bx.length /\ b = bs j) (R0 := ⟨fun b => b ∈ fp \/ w.heap.size <= b \/ ∃ j, j < bx.length /\ b = bs j, ξ, h1, h2⟩) hv' hn hs (Nat.le_refl _) (fun b hb => Or.inl hb.1) (fun b hb => ⟨Or.inr (Or.inr (Or.inl hb)), Or.inl hb⟩) (fun b hb => by
  by_cases hlt : b < w.heap.size
  ·have hm : b ∈ fp := Classical.byContradiction fun h => hb ⟨hlt, h⟩
   exact ⟨Or.inr (Or.inr (Or.inl hm)), Or.inl hm⟩
  ·exact ⟨Or.inr (Or.inl (by omega)), Or.inr (Or.inl (by omega))⟩)
 have hg1 : g.A0 = _ := (Prod.mk.inj hg).1
 have hg2 : g.R0 = _ := (Prod.mk.inj hg).2
 refine ⟨{ g with β := fun k => bs (k - 1000000) }, hg, ?_⟩
 have hlen : (dvs ++ bvs.flatten).length = (AF.ds l ++ bxA bx.flatten).length := za5.len hv
 have hbne : ∀ b, (zim l bx).bx b ≠ none ↔ ∃ q, q < bx.length /\ b = 1000000 + q := fun b => by
  have := zph bx 0 (AF.ds l).length b
  simp only [Nat.zero_add] at this
  exact this
 have hblt : ∀ q, q < bx.length -> bs q < w.heap.size := fun q hq => by have := hbx.lt q hq; rwa [Nat.zero_add] at this
 have hdeep : ∀ e x, (zim l bx).ev e = some x -> x.deep = true /\ x.on = true := fun e x hx => zgm _ _ e x hx
 have hφ : ∀ e, (zim l bx).On e -> ∀ b ∈ g.φ e, ¬ (b < w.heap.size /\ b ∉ fp) := fun e he b hb => hR.etop e he b hb
 have hfree : ∀ b, ((b < w.heap.size /\ b ∉ fp /\ ∀ j, j < bx.length -> b ≠ bs j) /\ A b) -> zc8 (zim l bx) { g with β := fun k => bs (k - 1000000) } w b := fun b hb => by
  refine ⟨⟨fun k hk => ?_, fun e x hx ho hh => hφ e ⟨x, hx, ho⟩ b (List.mem_of_mem_head? hh) ⟨hb.1.1, hb.1.2.1⟩, hb.1.1, ?_⟩, fun e he hm => hφ e he b hm ⟨hb.1.1, hb.1.2.1⟩⟩
  ·obtain ⟨q, hq, rfl⟩ := (hbne k).1 hk
   show bs (1000000 + q - 1000000) ≠ b
   rw [show 1000000 + q - 1000000 = q by omega]
   exact fun e => hb.1.2.2 q hq e.symm
  ·show g.A0 b
   rw [hg1]
   exact Or.inl hb.2
 have hat : ∀ (i : Nat) d v, (AF.ds l ++ bxA bx.flatten)[i]? = some d -> (dvs ++ bvs.flatten)[i]? = some v -> VR (zim l bx) { g with β := fun k => bs (k - 1000000) } w (gVN i d) v := fun i d v hd hv1 => by
  obtain ⟨b, d⟩ := d
  cases b with
  | false =>
   obtain ⟨u, e1, e2⟩ := za5.atR hv i d hd
   rw [e1] at hv1
   cases hv1
   exact zqv hfree e2
  | true =>
   have h0 := hR.slots i
   have hj0 := zid (AF.ds l ++ bxA bx.flatten) 0 i
   rw [Nat.zero_add, hd] at hj0
   have h0' : VR (zd3 (AF.ds l ++ bxA bx.flatten)) g w (zha 0 (AF.ds l ++ bxA bx.flatten) i) _ := h0
   rw [hj0] at h0'
   have hlt : i < (dvs ++ bvs.flatten).length := (List.getElem?_eq_some_iff.1 hv1).1
   have e : ((⟨dvs ++ bvs.flatten⟩ : Array Value) ++ Array.replicate ((AF.ds l ++ bxA bx.flatten).length - (dvs ++ bvs.flatten).length) undef).getD i (g.R0.ξ i) = v := by
    rw [Array.getD_eq_getD_getElem?, Array.getElem?_append_left (by simpa using hlt)]
    simp only [List.getElem?_toArray, hv1, Option.getD_some]
   rw [e] at h0'
   have hf := zu2 hfs i d hd
   cases d with
   | one t => exact zua (σ := zd3 (AF.ds l ++ bxA bx.flatten)) (σ' := zim l bx) (g := g) (g' := { g with β := fun k => bs (k - 1000000) }) rfl rfl hf h0'
   | agg ts => obtain ⟨a, e1, e2⟩ := h0'; exact ⟨a, e1, zqr (σ := zd3 (AF.ds l ++ bxA bx.flatten)) (σ' := zim l bx) (g := g) (g' := { g with β := fun k => bs (k - 1000000) }) rfl rfl hf e2⟩
 have hvl := AF.vals_len bs l dvs hl
 refine ⟨rfl, by simp; omega, fun b hb => ?_, fun i => ?_, fun b cs hb => ?_, fun b hb => ?_, fun b b' hb hb' he => ?_, fun e x he ho => ?_, fun e x he ho => ?_, hR.slc, fun e he b hb => ?_, fun e he b hb => ?_, fun e he => hR.nodup e he, fun e e' h1 h2 hne => hR.apart e e' h1 h2 hne, fun e k he hk hm => ?_⟩
 ·show g.A0 b /\ g.R0 b
  rw [hg1, hg2]
  show (A b \/ _) /\ (b ∈ fp \/ _)
  by_cases hlt : b < w.heap.size
  ·by_cases hm : b ∈ fp
   ·exact ⟨Or.inr (Or.inr (Or.inl hm)), Or.inl hm⟩
   ·have : ∃ j, j < bx.length /\ b = bs j := Classical.byContradiction fun hh => hb ⟨hlt, hm, fun j hj e => hh ⟨j, hj, e⟩⟩
    exact ⟨Or.inr (Or.inr (Or.inr this)), Or.inr (Or.inr this)⟩
  ·exact ⟨Or.inr (Or.inl (by omega)), Or.inr (Or.inl (by omega))⟩
 ·show VR _ _ _ (zjh 0 bx (zdm 0 0 l) i) _
  rcases zqy bx 0 (zdm 0 0 l) i with ⟨⟨q, h4, rfl⟩, h5⟩ | ⟨_, h5⟩
  ·rw [h5, Nat.zero_add, Array.getD_eq_getD_getElem?, Array.getElem?_eq_none (by simp; omega)]
   refine ⟨?_, (hbne _).2 ⟨q, h4, rfl⟩⟩
   show (none : Option Value).getD (g.R0.ξ (1000000 + q)) = .pointer (some ⟨bs (1000000 + q - 1000000), 0, none⟩)
   rw [hg2, show 1000000 + q - 1000000 = q by omega]
   exact h3 q h4
  ·rw [h5]
   by_cases hi : i < l.length
   ·obtain ⟨u, e1, e2⟩ := zhw (σ := zim l bx) (g := { g with β := fun k => bs (k - 1000000) }) (w := w) (bs := bs) (n := bx.length) (fun j hj => ⟨(hbne _).2 ⟨j, hj, rfl⟩, by show bs (1000000 + j - 1000000) = bs j; rw [show 1000000 + j - 1000000 = j by omega]⟩) l 0 0 dvs hj hl (fun i d v e1 e2 => by
     rw [Nat.zero_add]
     exact hat i d v (by rw [List.getElem?_append_left (List.getElem?_eq_some_iff.1 e1).1]; exact e1) (by rw [List.getElem?_append_left (List.getElem?_eq_some_iff.1 e2).1]; exact e2)) i hi
    rw [Nat.zero_add] at e2
    rw [Array.getD_eq_getD_getElem?, Array.getElem?_append_left (by simp; omega)]
    simp only [List.getElem?_toArray, e1, Option.getD_some]
    exact e2
   ·have := zgs l 0 0 i (by omega)
    rw [Nat.zero_add] at this
    rw [this]
    trivial
 ·obtain ⟨q, vs, ty, k1, k2, k3, k4⟩ := zps (σ := zim l bx) (g := { g with β := fun k => bs (k - 1000000) }) bx bvs 0 (AF.ds l).length hbx (fun i p v e1 e2 => by
   have := hat ((AF.ds l).length + i) (p.1, .one p.2) v (by rw [List.getElem?_append_right (by omega), show (AF.ds l).length + i - (AF.ds l).length = i by omega]; unfold bxA; rw [List.getElem?_map, e1]; rfl) (by rw [List.getElem?_append_right (by omega), show (AF.ds l).length + i - dvs.length = i by omega]; exact e2)
   rw [qlb] at this
   exact this) b cs hb
  rw [Nat.zero_add] at k2 k3
  subst k2
  exact ⟨⟨vs⟩, ty, by show w.heap[bs (1000000 + q - 1000000)]? = _; rw [show 1000000 + q - 1000000 = q by omega]; exact k3, k4⟩
 ·obtain ⟨q, hq, rfl⟩ := (hbne b).1 hb
  intro h
  have h := h.2.2 q hq
  exact h (show bs (1000000 + q - 1000000) = bs q by rw [show 1000000 + q - 1000000 = q by omega])
 ·obtain ⟨q, hq, rfl⟩ := (hbne b).1 hb
  obtain ⟨q', hq', rfl⟩ := (hbne b').1 hb'
  have he : bs (1000000 + q - 1000000) = bs (1000000 + q' - 1000000) := he
  rw [show 1000000 + q - 1000000 = q by omega, show 1000000 + q' - 1000000 = q' by omega] at he
  rw [hinj q q' hq hq' he]
 ·obtain ⟨ao, cap, e1, e2, e3, e4⟩ := hR.evs e x he ho
  refine ⟨ao, cap, e1, e2, e3, ?_⟩
  rcases e4 with e4 | ⟨b, cells, ty, fps, j1, j2, j3, j4, j5⟩
  ·exact Or.inl e4
  ·rw [if_pos (hdeep e x he).1] at j5
   exact Or.inr ⟨b, cells, ty, fps, j1, j2, j3, j4, by rw [if_pos (hdeep e x he).1]; exact j5⟩
 ·rw [(hdeep e x he).2] at ho; cases ho
 ·exact hR.ebase e he b hb
 ·exact fun h => hφ e he b hb ⟨h.1, h.2.1⟩
 ·obtain ⟨q, hq, rfl⟩ := (hbne k).1 hk
  have hm : bs (1000000 + q - 1000000) ∈ g.φ e := hm
  rw [show 1000000 + q - 1000000 = q by omega] at hm
  exact hφ e he _ hm ⟨hblt q hq, hbf q hq⟩
def bxE (σ : St) : Nat -> Bxs -> (List V -> Prop) -> Prop
 | _, [], K => K []
 | j, b :: bs, K => σ.sl (1000000 + j) = .one (.bx (1000000 + j) 0) /\ zax (σ.bx (1000000 + j)) fun cs => cs.length = b.length /\ bxE σ (j + 1) bs fun vs => K (cs.map .one ++ vs)
theorem CRs.ones {σ : St} {g : Gh} {w : World} : ∀ {cs : List C} {vs : List Value}, CRs σ g w cs vs -> VRl σ g w (cs.map .one) vs
 | [], _, h => h
 | c :: cs, _, h => by obtain ⟨v, vs', rfl, h1, h2⟩ := h; exact ⟨v, vs', rfl, h1, CRs.ones h2⟩
theorem zpk {n0 : Nat -> Prop} {N : Nat} {σ : St} {g : Gh} {a : Act} {w : World} {bs : Nat -> Nat} (hR : Rel n0 N σ g a w) (hN : N <= 1000000) : ∀ {bx : Bxs} {j : Nat} {K : List V -> Prop}, (∀ q, q < bx.length -> g.R0.ξ (1000000 + (j + q)) = qex (bs (j + q))) -> bxE σ j bx K →
  ∃ vs bvs, K vs /\ zyx w bs j bvs bx /\ VRl σ g w vs bvs.flatten /\ ∀ q, q < bx.length -> σ.bx (1000000 + (j + q)) ≠ none /\ g.β (1000000 + (j + q)) = bs (j + q)
 | [], j, K, _, h => ⟨[], [], h, trivial, rfl, fun q hq => by simp at hq⟩
 | b :: bx, j, K, hξ, h => by
  obtain ⟨h1, h2⟩ := h
  obtain ⟨cs, h3, h4, h5⟩ := zap h2
  obtain ⟨vs, bvs, k1, k2, k3, k4⟩ := zpk hR hN (bx := bx) (j := j + 1) (fun q hq => by have := hξ (q + 1) (by simpa using hq); rw [show j + (q + 1) = j + 1 + q by omega] at this; exact this) h5
  have h0 := hR.slots (1000000 + j)
  rw [h1, Array.getD_eq_getD_getElem?, Array.getElem?_eq_none (by rw [hR.size]; omega)] at h0
  have hx := hξ 0 (by simp)
  rw [Nat.add_zero] at hx
  have h0 : CR σ g w (.bx (1000000 + j) 0) (g.R0.ξ (1000000 + j)) := h0
  rw [hx] at h0
  have hβ : g.β (1000000 + j) = bs j := by
   have := h0.1
   unfold qex at this
   simp only [Value.pointer.injEq, Option.some.injEq] at this
   injection this with e
   exact e.symm
  obtain ⟨us, ty, j1, j2⟩ := hR.boxes _ cs h3
  rw [hβ] at j1
  refine ⟨_, us.toList :: bvs, k1, ⟨by rw [j2.len, h4], ⟨ty, j1⟩, k2⟩, VRl.append j2.ones k3, fun q hq => ?_⟩
  cases q with
  | zero => exact ⟨h0.2, hβ⟩
  | succ q => rw [show j + (q + 1) = j + 1 + q by omega]; exact k4 q (by simpa using hq)
def PB0 (P : Program) (rs : List ResultVar) (res : List (Bool × D)) (bx : Bxs) (pl : List (Nat × Nat × Nat)) (σ : St) : Prop := zax (zb1 P σ rs) fun vs => bxE σ 0 bx fun cs => gvA σ (fun _ => True) [] pl (vs ++ cs) (res ++ bxA bx.flatten)
def PB (P : Program) (rs : List ResultVar) (res : List (Bool × D)) (bx : Bxs) (e : Exit) (σ : St) : Prop := match e with
 | .normal => PB0 P rs res bx [] σ \/ ∃ pl, PB0 P rs res bx pl σ
 | .ret => PB0 P rs res bx [] σ \/ ∃ pl, PB0 P rs res bx pl σ
 | _ => False
theorem zkk {σ : St} : ∀ {rs : List ResultVar} {vs : List V}, zb1 P σ rs = some vs -> vs.length = rs.length
 | [], vs, h => by cases h; rfl
 | r :: rs, vs, h => by
  unfold zb1 at h
  cases h1 : zxv P σ r with
  | none => rw [h1] at h; cases h
  | some v =>
   rw [h1] at h
   simp only [Option.bind_some] at h
   cases h2 : zb1 P σ rs with
   | none => rw [h2] at h; cases h
   | some us => rw [h2] at h; cases h; simp [zkk h2]
theorem VRl.len {σ : St} {g : Gh} {w : World} : ∀ {xs : List V} {vs : List Value}, VRl σ g w xs vs -> vs.length = xs.length
 | [], _, h => by rw [show _ = [] from h]; rfl
 | x :: xs, _, h => by obtain ⟨v, vs', rfl, _, h2⟩ := h; simp [VRl.len h2]
theorem PC_of {f : FuncId} {fn : Func} {c : Code} {bx bx' : Bxs} {l : List AF} {res : List (Bool × D)} (hc : zbr P f) (hf : P.funcs[f]? = some fn) (hb : fn.body = some c) (hd : zec fn.ntmps c = true) (hN : l.length <= fn.ntmps) (hN2 : fn.ntmps <= 1000000) (hbl : bx'.length = bx.length) (hj : AF.okJ bx.length l = true) (hs : zb6 (AF.ds l ++ bxA bx.flatten)) (hfs : gFS (AF.ds l ++ bxA bx.flatten) = true) (hrl : fn.results.toList.length = res.length)
  (h : ex P c [] (PB P fn.results.toList res bx') (zim l bx)) : PC P f bx l bx' res := by
 refine ⟨hc, hbl, fun w bs bvs dvs fp tp A hinj hbf hbx hv hn hl => ?_⟩
 refine calls_of_wp hf hb ?_
 obtain ⟨g, hg, hR⟩ := zy0 (N := fn.ntmps) hinj hbf hbx hv hn hl hj hN hN2 hs hfs (ξ := fun i => if 1000000 <= i then qex (bs (i - 1000000)) else undef) (fun i hi => if_neg (by omega)) (fun i b => by
  by_cases h : 1000000 <= i
  ·rw [if_pos h]; exact fun e => by cases e
  ·rw [if_neg h]; exact fun e => by cases e) (fun j hj => by
  rw [if_pos (by omega), show 1000000 + j - 1000000 = j by omega])
 refine wp_mono (zby (w0 := w) c (zim l bx) _ hd h g _ w hR (fun k hk => hk.1) (Bk.refl _ _) hg) fun e a' w' hq => ?_
 obtain ⟨σ', g', h1, h2, h3, h4, h5⟩ := hq
 have hξ : ∀ q, q < bx'.length -> g'.R0.ξ (1000000 + (0 + q)) = qex (bs (0 + q)) := fun q hq => by
  rw [(Prod.mk.inj h5).2, Nat.zero_add]
  show (if 1000000 <= 1000000 + q then qex (bs (1000000 + q - 1000000)) else undef) = _
  rw [if_pos (by omega), show 1000000 + q - 1000000 = q by omega]
 have key : (∃ pl, PB0 P fn.results.toList res bx' pl σ') -> ∃ v, (results fn a'.tmps).run P w' = .ok v w' /\ ∃ us bvs' fp' tp', Ending.returned v = .returned (zcp us) /\ zyx w' bs 0 bvs' bx' /\ us.length = res.length ∧
   za5 w' (fun k => (k < w'.heap.size /\ k ∉ fp' /\ ∀ j, j < bx.length -> k ≠ bs j) /\ (A k \/ w.heap.size <= k \/ k ∈ fp)) (res ++ bxA bx'.flatten) (us ++ bvs'.flatten) fp' tp' /\ fp'.Nodup /\ (∀ b ∈ fp', b ∈ fp \/ w.heap.size <= b) /\ Bk (fun k => k < w.heap.size /\ k ∉ fp /\ ∀ j, j < bx.length -> k ≠ bs j) w w' := by
  rintro ⟨pl, hk⟩
  obtain ⟨vs, hvs, hk⟩ := zap hk
  obtain ⟨us, r1, r2⟩ := zcn h2 fn hvs
  obtain ⟨cs, bvs', k0, b1, b2, b3⟩ := zpk (bs := bs) h2 hN2 hξ hk
  obtain ⟨B, hB⟩ := h2.fam
  obtain ⟨s, k1, ⟨tp', k2⟩, k3, k4⟩ := zgq h2 hB k0 (VRl.append r2 b2)
  rw [List.append_nil] at k4
  have hsp : s.Pairwise okP := (List.pairwise_reverse.1 (k4 List.Pairwise.nil)).imp fun h => h.symm
  have hin : ∀ b ∈ bks B s, ∃ e, σ'.On e /\ b ∈ g'.φ e := fun b hb => by
   obtain ⟨x, hx, hm⟩ := List.mem_flatMap.1 hb
   exact ⟨x.1, k3 x hx, hB.sub x.1 x.2 b (k3 x hx) hm⟩
  have hbβ : ∀ j, j < bx.length -> σ'.bx (1000000 + j) ≠ none /\ g'.β (1000000 + j) = bs j := fun j hj => by
   have := b3 j (by omega)
   rwa [Nat.zero_add] at this
  have hA : ∀ b, zc8 σ' g' w' b -> (b < w'.heap.size /\ b ∉ bks B s /\ ∀ j, j < bx.length -> b ≠ bs j) /\ (A b \/ w.heap.size <= b \/ b ∈ fp) := fun b hb => by
   have hnb : ∀ j, j < bx.length -> b ≠ bs j := fun j hj e => hb.1.1 _ (hbβ j hj).1 (by rw [(hbβ j hj).2, e])
   refine ⟨⟨hb.1.2.2.1, fun hm => ?_, hnb⟩, ?_⟩
   ·obtain ⟨e, ho, hm⟩ := hin b hm
    exact hb.2 e ho hm
   ·have h0 := hb.1.2.2.2
    rw [(Prod.mk.inj h5).1] at h0
    rcases h0 with h0 | h0 | h0 | ⟨j, hj, h0⟩
    ·exact Or.inl h0
    ·exact Or.inr (Or.inl h0)
    ·exact Or.inr (Or.inr h0)
    ·exact absurd h0 (hnb j hj)
  refine ⟨_, r1, us, bvs', bks B s, tp', rfl, b1, by rw [r2.len, <- hrl]; exact zkk hvs, za5.keepA hA k2, ze8 h2 hB k3 hsp, fun b hb => ?_, h4⟩
  obtain ⟨e, ho, hm⟩ := hin b hb
  have h0 := (h2.ebase e ho b hm).2
  rw [(Prod.mk.inj h5).2] at h0
  rcases h0 with h0 | h0 | ⟨j, hj, h0⟩
  ·exact Or.inl h0
  ·exact Or.inr h0
  ·have := h2.ebx e _ ho (hbβ j hj).1
   rw [(hbβ j hj).2] at this
   exact absurd (h0 ▸ hm) this
 have key' : ∀ {Y : Prop}, (PB0 P fn.results.toList res bx' [] σ' \/ ∃ pl, PB0 P fn.results.toList res bx' pl σ') -> ((∃ pl, PB0 P fn.results.toList res bx' pl σ') -> Y) -> Y := fun h k => h.elim (fun h => k ⟨[], h⟩) k
 cases e with
 | normal => exact ⟨h2.defers, key' h1 key⟩
 | ret => exact ⟨h2.defers, key' h1 key⟩
 | exit _ => exact h1.elim
 | goto _ => exact h1.elim
 | panic _ => exact h1.elim
 | outgrown => exact h1.elim
end Go.Proofs.YtemnhgmgeijkcaaGreat
namespace Go.Proofs.YtemnhgmgeijkcaaGreat
set_option linter.unusedSimpArgs false
set_option linter.unusedVariables false
set_option linter.unusedSectionVars false
set_option maxRecDepth 4000
open Go.RowKit
variable {P : Program}
def mtK (W : List Nat) : List AF -> List V -> (List V -> Prop) -> Prop
 | [], [], K => K []
 | .d _ _ :: l, v :: vs, K => mtK W l vs fun u => K (v :: u)
 | .p j :: l, .one (.bx b o) :: vs, K => W[j]? = some b /\ o = 0 /\ mtK W l vs K
 | .fn g js :: l, .one (.fn g' bs) :: vs, K => g' = g /\ js.map (fun j => W[j]?) = bs.map some /\ mtK W l vs K
 | _, _, _ => False
theorem qds {g : Gh} {W : List Nat} {bs : Nat -> Nat} (hb : ∀ j b, W[j]? = some b -> bs j = g.β b) : ∀ (js bs' : List Nat), js.map (fun j => W[j]?) = bs'.map some -> bs'.map (fun b => Value.pointer (some ⟨g.β b, 0, none⟩)) = js.map fun j => qex (bs j)
 | [], [], _ => rfl
 | [], _ :: _, e => by cases e
 | _ :: _, [], e => by cases e
 | j :: js, b :: bs', e => by
  simp only [List.map_cons, List.cons.injEq] at e
  rw [List.map_cons, List.map_cons, qds hb js bs' e.2, hb j b e.1]
  rfl
theorem zia {σ : St} {g : Gh} {w : World} {W : List Nat} {bs : Nat -> Nat} (hb : ∀ j b, W[j]? = some b -> bs j = g.β b) : ∀ {l : List AF} {xs : List V} {K : List V -> Prop} {vs : List Value}, mtK W l xs K -> VRl σ g w xs vs →
  ∃ us dvs, K us /\ VRl σ g w us dvs /\ dvs.length = (AF.ds l).length /\ vs = AF.vals bs l dvs
 | [], [], K, vs, h, hv => ⟨[], [], h, rfl, rfl, hv⟩
 | .d _ _ :: l, x :: xs, K, vs, h, hv => by
  obtain ⟨v, vs', rfl, h1, h2⟩ := hv
  obtain ⟨us, dvs, k1, k2, k3, k4⟩ := zia hb (l := l) h h2
  exact ⟨x :: us, v :: dvs, k1, ⟨v, dvs, rfl, h1, k2⟩, by simp [AF.ds, k3], by rw [k4]; rfl⟩
 | .p j :: l, .one (.bx b o) :: xs, K, vs, h, hv => by
  obtain ⟨v, vs', rfl, h1, h2⟩ := hv
  obtain ⟨e1, rfl, h⟩ := h
  obtain ⟨us, dvs, k1, k2, k3, k4⟩ := zia hb (l := l) h h2
  refine ⟨us, dvs, k1, k2, k3, ?_⟩
  have h1 : CR σ g w (.bx b 0) v := h1
  rw [k4, h1.1, <- hb j b e1]
  rfl
 | .fn f js :: l, .one (.fn f' bs') :: xs, K, vs, h, hv => by
  obtain ⟨v, vs', rfl, h1, h2⟩ := hv
  obtain ⟨rfl, e1, h⟩ := h
  obtain ⟨us, dvs, k1, k2, k3, k4⟩ := zia hb (l := l) h h2
  refine ⟨us, dvs, k1, k2, k3, ?_⟩
  have h1 : CR σ g w (.fn f' bs') v := h1
  rw [k4, h1.1]
  rw [qds hb js bs' e1]
  rfl
 | .d _ _ :: _, [], _, _, h, _ => h.elim
 | .p _ :: _, [], _, _, h, _ => h.elim
 | .fn _ _ :: _, [], _, _, h, _ => h.elim
 | [], _ :: _, _, _, h, _ => h.elim
 | .p _ :: _, .agg _ :: _, _, _, h, _ => h.elim
 | .p _ :: _, .tup _ :: _, _, _, h, _ => h.elim
 | .fn _ _ :: _, .agg _ :: _, _, _, h, _ => h.elim
 | .fn _ _ :: _, .tup _ :: _, _, _, h, _ => h.elim
 | .p _ :: _, .one (.t _) :: _, _, _, h, _ => h.elim
 | .p _ :: _, .one (.nl _) :: _, _, _, h, _ => h.elim
 | .p _ :: _, .one (.ow _ _) :: _, _, _, h, _ => h.elim
 | .p _ :: _, .one (.el _ _) :: _, _, _, h, _ => h.elim
 | .p _ :: _, .one (.eo _ _ _ _ _) :: _, _, _, h, _ => h.elim
 | .p _ :: _, .one (.fn _ _) :: _, _, _, h, _ => h.elim
 | .p _ :: _, .one (.cv _) :: _, _, _, h, _ => h.elim
 | .p _ :: _, .one .any :: _, _, _, h, _ => h.elim
 | .p _ :: _, .one (.rn _) :: _, _, _, h, _ => h.elim
 | .p _ :: _, .one (.er _ _) :: _, _, _, h, _ => h.elim
 | .fn _ _ :: _, .one (.t _) :: _, _, _, h, _ => h.elim
 | .fn _ _ :: _, .one (.nl _) :: _, _, _, h, _ => h.elim
 | .fn _ _ :: _, .one (.ow _ _) :: _, _, _, h, _ => h.elim
 | .fn _ _ :: _, .one (.el _ _) :: _, _, _, h, _ => h.elim
 | .fn _ _ :: _, .one (.eo _ _ _ _ _) :: _, _, _, h, _ => h.elim
 | .fn _ _ :: _, .one (.bx _ _) :: _, _, _, h, _ => h.elim
 | .fn _ _ :: _, .one (.cv _) :: _, _, _, h, _ => h.elim
 | .fn _ _ :: _, .one .any :: _, _, _, h, _ => h.elim
 | .fn _ _ :: _, .one (.rn _) :: _, _, _, h, _ => h.elim
 | .fn _ _ :: _, .one (.er _ _) :: _, _, _, h, _ => h.elim
def qjh (σ : St) : List Nat -> Bxs -> (List V -> Prop) -> Prop
 | [], [], K => K []
 | k :: W, b :: bx, K => zax (σ.bx k) fun cs => cs.length = b.length /\ qjh σ W bx fun l => K (cs.map .one ++ l)
 | _, _, _ => False
theorem zmz {n0 : Nat -> Prop} {N : Nat} {σ : St} {g : Gh} {a : Act} {w : World} (hR : Rel n0 N σ g a w) {bs : Nat -> Nat} : ∀ {W : List Nat} {bx : Bxs} {j : Nat} {K : List V -> Prop}, (∀ i b, W[i]? = some b -> bs (j + i) = g.β b) -> qjh σ W bx K →
  ∃ l bvs, K l /\ VRl σ g w l bvs.flatten /\ zyx w bs j bvs bx /\ W.length = bx.length /\ ∀ b ∈ W, σ.bx b ≠ none
 | [], [], j, K, _, h => ⟨[], [], h, rfl, trivial, rfl, fun b hb => by simp at hb⟩
 | k :: W, b :: bx, j, K, hb, h => by
  obtain ⟨cs, h1, h2, h3⟩ := zap h
  obtain ⟨l, bvs, k1, k2, k3, k4, k5⟩ := zmz hR (W := W) (bx := bx) (j := j + 1) (fun i b hi => by have := hb (i + 1) b (by simpa using hi); rw [show j + (i + 1) = j + 1 + i by omega] at this; exact this) h3
  obtain ⟨us, ty, j1, j2⟩ := hR.boxes k cs h1
  have hk := hb 0 k rfl
  rw [Nat.add_zero] at hk
  refine ⟨_, us.toList :: bvs, k1, VRl.append j2.ones k2, ⟨by rw [j2.len, h2], ⟨ty, by rw [hk]; exact j1⟩, k3⟩, by simp [k4], fun x hx => ?_⟩
  rcases List.mem_cons.1 hx with rfl | hx
  ·rw [h1]; simp
  ·exact k5 x hx
 | [], _ :: _, _, _, _, h => h.elim
 | _ :: _, [], _, _, _, h => h.elim
theorem qfi {W : List Nat} : ∀ {l : List AF} {xs : List V} {K K' : List V -> Prop}, (∀ u, K u -> K' u) -> mtK W l xs K -> mtK W l xs K' := fun {l} => by
 induction l with
 | nil => intro xs K K' hK h; cases xs with
  | nil => exact hK _ h
  | cons _ _ => exact h.elim
 | cons a l ih => intro xs K K' hK h; cases xs with
  | nil => cases a <;> exact h.elim
  | cons x xs =>
   cases a with
   | d b y => exact ih (fun u => hK _) h
   | p j =>
    cases x with
    | one c => cases c <;> first | exact h.elim | exact ⟨h.1, h.2.1, ih hK h.2.2⟩
    | agg _ => exact h.elim
    | tup _ => exact h.elim
   | fn g js =>
    cases x with
    | one c => cases c <;> first | exact h.elim | exact ⟨h.1, h.2.1, ih hK h.2.2⟩
    | agg _ => exact h.elim
    | tup _ => exact h.elim
def znu (d : Nat) : Nat -> List Nat -> Bxs -> (Nat -> Option (List C)) -> (Nat -> Option (List C))
 | m, k :: W, b :: bx, f => upd (znu d (m + b.length) W bx f) k (some (mC d m b))
 | _, _, _, f => f
theorem zou (d : Nat) : ∀ (W : List Nat) (bx : Bxs) (m : Nat) (f : Nat -> Option (List C)) (b : Nat), b ∉ W -> znu d m W bx f b = f b
 | [], _, _, _, _, _ => by unfold znu; rfl
 | k :: W, [], _, _, _, _ => by unfold znu; rfl
 | k :: W, c :: bx, m, f, b, hb => by
  unfold znu
  rw [zaq _ _ (fun e => hb (by simp [e]))]
  exact zou d W bx _ f b fun h => hb (by simp [h])
theorem qbr (d : Nat) : ∀ (W : List Nat) (bx : Bxs) (m : Nat) (f : Nat -> Option (List C)) (b : Nat), W.length = bx.length -> b ∈ W -> znu d m W bx f b ≠ none
 | [], _, _, _, _, _, hb => by simp at hb
 | k :: W, [], _, _, _, hl, _ => by simp at hl
 | k :: W, c :: bx, m, f, b, hl, hb => by
  unfold znu
  by_cases h : b = k
  ·subst h; rw [zaj]; simp
  ·rw [zaq _ _ h]
   exact qbr d W bx _ f b (by simpa using hl) ((List.mem_cons.1 hb).resolve_left h)
theorem zmt {σ : St} {g : Gh} {w : World} {bs : Nat -> Nat} (d : Nat) {β : Nat -> Nat} : ∀ (W : List Nat) (bx : Bxs) (bvs : List (List Value)) (j m : Nat) (f : Nat -> Option (List C)), (∀ i b, W[i]? = some b -> bs (j + i) = β b) -> zyx w bs j bvs bx -> CRs σ g w (mC d m bx.flatten) bvs.flatten -> W.length = bx.length →
  ∀ b ∈ W, ∀ cs, znu d m W bx f b = some cs -> ∃ vs ty, w.heap[β b]? = some (.cells vs ty (0, 0)) /\ CRs σ g w cs vs.toList
 | [], _, _, _, _, _, _, _, _, _, b, hb, _, _ => by simp at hb
 | k :: W, [], _, _, _, _, _, _, _, hl, _, _, _, _ => by simp at hl
 | k :: W, c :: bx, [], _, _, _, _, h0, _, _, _, _, _, _ => h0.elim
 | k :: W, c :: bx, vs :: bvs, j, m, f, hβ, h0, hc, hl, b, hb, cs, hs => by
  obtain ⟨h1, ⟨ty, h2⟩, h3⟩ := h0
  rw [List.flatten_cons, List.flatten_cons, zf5] at hc
  obtain ⟨v1, v2, e, c1, c2⟩ := hc.split
  obtain ⟨e1, e2⟩ := List.append_inj e (by rw [c1.len, zrj, h1])
  subst e1 e2
  unfold znu at hs
  by_cases h : b = k
  ·subst h
   rw [zaj] at hs
   cases hs
   have := hβ 0 b rfl
   rw [Nat.add_zero] at this
   exact ⟨⟨vs⟩, ty, by rw [<- this]; exact h2, c1⟩
  ·rw [zaq _ _ h] at hs
   exact zmt d W bx bvs (j + 1) (m + c.length) f (fun i b hi => by have := hβ (i + 1) b (by simpa using hi); rw [show j + (i + 1) = j + 1 + i by omega] at this; exact this) h3 c2 (by simpa using hl) b ((List.mem_cons.1 hb).resolve_left h) cs hs
theorem CRs.split_flat {σ : St} {g : Gh} {w w' : World} {A : Nat -> Prop} {d m : Nat} {l : List (Bool × T)} {c : Bxs} {us vs : List Value} (h : CRs σ g w (mC d 0 (l ++ c.flatten)) (us ++ vs)) (hl : us.length = l.length) : CRs σ g w (mC d 0 l) us /\ CRs σ g w (mC d l.length c.flatten) vs := by
 rw [zf5] at h
 obtain ⟨v1, v2, e, c1, c2⟩ := h.split
 obtain ⟨e1, e2⟩ := List.append_inj e (by rw [c1.len, zrj, hl])
 subst e1 e2
 rw [Nat.zero_add] at c2
 exact ⟨c1, c2⟩
theorem za5.one_vals {w : World} {A : Nat -> Prop} : ∀ {ds : List (Bool × D)} {vs : List Value} {fp tp : List Nat}, za5 w A ds vs fp tp -> (vs.flatMap fun u => u.cells.toList).length = (zb7 ds).length := fun {ds vs fp tp} h => by
 obtain ⟨tp', h'⟩ := h.flat
 rw [za5.len h']
 unfold bxA
 rw [List.length_map]
end Go.Proofs.YtemnhgmgeijkcaaGreat
namespace Go.Proofs.YtemnhgmgeijkcaaGreat
set_option linter.unusedSimpArgs false
set_option linter.unusedVariables false
set_option linter.unusedSectionVars false
set_option maxRecDepth 4000
open Go.RowKit
variable {P : Program}
def mkZ (P : Program) (t : TypeId) : List (List C) := match (elT P t).bind (zdh P) with
 | some z => [z]
 | none => []
def mkEv (d : Nat) : Option (Prop × Ev) -> List (Nat × Ev)
 | some (_, y) => [(d * 32, y)]
 | none => []
theorem qmr {σ σ1 : St} {t : TypeId} {l c : Operand} (h : ∀ k ∈ za1 [l, c] ++ rK (mkZ P t), zbb σ σ1 k) : mkD P σ1 t l c = mkD P σ t l c := by
 have e1 : σ1.get P 0 l = σ.get P 0 l := zb9 (l := [l, c]) (fun k hk => h k (by simp [hk])) (by simp) 0
 have e2 : σ1.get P 0 c = σ.get P 0 c := zb9 (l := [l, c]) (fun k hk => h k (by simp [hk])) (by simp) 0
 unfold mkD
 rw [e1, e2]
 unfold mkZ at h
 cases hel : elT P t with
 | none => rfl
 | some el =>
  simp only [Option.bind_some]
  rw [hel] at h
  cases hz : zdh P el with
  | none => simp only [Option.bind_none]
  | some z =>
   rw [Option.bind_some, hz] at h
   have e3 : zrv σ1 z = zrv σ z := zj2 fun k hk => h k (by simp [rK, hk])
   simp only [Option.bind_some, e3]
section
variable {ks : List Fr} {Q : Exit -> St -> Prop} {σ : St} {ops : Array Oper} {os : List Oper} {L : List (List Ky × List Ky)} {ty : TypeId} {ps : String} {af : Array Edge} {d : Nat} {l c : Operand} {t : TypeId}
theorem dMakeD (h : zax (mkD P σ t l c) fun r => r.1 /\ σ.ev (d * 32) = none)
  (k : exd P ops os (L ++ [(za1 [l, c] ++ (rK (mkZ P t) ++ [(2, d * 32)]), dK (some d) ++ eK (mkEv d (mkD P σ t l c)))]) ks Q ((σ.mk1 d (mkD P σ t l c)).put (some d) (.one (.ow (d * 32) 0)))) :
  exd P ops (⟨some d, .makeSlice t l c, ty, ps, af, none⟩ :: os) L ks Q σ := by
 obtain ⟨⟨p, y⟩, h1, h2, h3⟩ := zap h
 rw [h1] at k
 have hloc : ∀ σ1, (∀ k ∈ za1 [l, c] ++ (rK (mkZ P t) ++ [(2, d * 32)]), zbb σ σ1 k) -> mkD P σ1 t l c = some (p, y) /\ σ1.ev (d * 32) = none := fun σ1 hs =>
  ⟨(qmr fun k hk => hs k (by simp only [List.mem_append] at hk ⊢; rcases hk with hk | hk <;> simp [hk])).trans h1, (Eq.symm (hs (2, d * 32) (by simp))).trans h3⟩
 refine zft rfl rfl ?_ k
 show zgy P _ _ _ σ ((σ.apd (d * 32) [] y).put (some d) _)
 rw [zd6]
 refine zgy.of (o := ⟨some d, _, ty, ps, af, none⟩) (l := [(d * 32, y)]) (zbi (zbw _) (zbi (zwx _) rfl)) fun σ1 hs => ?_
 obtain ⟨h1, h3⟩ := hloc σ1 hs
 show zak P _ σ1 ((σ1.upE ((d * 32, y) :: zso [])).put _ _)
 rw [<- zd6]
 unfold mkD at h1
 obtain ⟨el, e1, h1⟩ := Option.bind_eq_some_iff.1 h1
 obtain ⟨n, e2, h1⟩ := Option.bind_eq_some_iff.1 h1
 obtain ⟨bts, e3, h1⟩ := Option.bind_eq_some_iff.1 h1
 obtain ⟨z, e4, h1⟩ := Option.bind_eq_some_iff.1 h1
 obtain ⟨⟨q1, q2⟩, e5, h1⟩ := Option.bind_eq_some_iff.1 h1
 split at h1
 ·rename_i kl a kc b hl hc
  split at h1
  ·rename_i hh
   obtain ⟨k1, k2, k3⟩ := hh
   have : q2 = [] := List.eq_nil_of_length_eq_zero k2
   subst this
   simp only [Option.some.injEq, Prod.mk.injEq] at h1
   obtain ⟨rfl, rfl⟩ := h1
   exact qi5 e1 e2 e3 e4 k1 e5 hl hc k3 h2.1 h2.2.1 h2.2.2 h3
  ·cases h1
 ·cases h1
end
def zxt : Option (Nat × Ev × List (Nat × Ev)) -> List Ky
 | some (e, _, _) => [(2, e)]
 | none => []
def stoW : Option (Nat × Ev × List (Nat × Ev)) -> List (Nat × Ev)
 | some (e, y, cons) => (e, y) :: zso cons
 | none => []
theorem qfz {σ σ1 : St} {t : TypeId} {x y : Operand} (h : ∀ k ∈ za1 [x, y] ++ (rK [(σ.get P t y).cells] ++ zxt (zry P σ t x y)), zbb σ σ1 k) {r : Nat × Ev × List (Nat × Ev)} (hr : zry P σ t x y = some r) : zry P σ1 t x y = some r := by
 have e1 : σ1.get P 0 x = σ.get P 0 x := zb9 (l := [x, y]) (fun k hk => h k (by simp [hk])) (by simp) 0
 have e2 : σ1.get P t y = σ.get P t y := zb9 (l := [x, y]) (fun k hk => h k (by simp [hk])) (by simp) t
 have e3 : zrv σ1 (σ.get P t y).cells = zrv σ (σ.get P t y).cells := zj2 fun k hk => h k (by simp [rK, hk])
 rw [hr] at h
 rw [<- hr]
 unfold zry at hr ⊢
 rw [e1, e2]
 split at hr
 ·rename_i e g sz i o hx
  obtain ⟨z, hz, hr⟩ := Option.bind_eq_some_iff.1 hr
  obtain ⟨n, hn, hr⟩ := Option.bind_eq_some_iff.1 hr
  split at hr
  ·obtain ⟨q, _, hr⟩ := Option.map_eq_some_iff.1 hr
   subst hr
   have e4 : σ1.ev e = σ.ev e := Eq.symm (h (2, e) (by simp [zxt]))
   simp only [e4, e3]
  ·cases hr
 ·cases hr
section
variable {ks : List Fr} {Q : Exit -> St -> Prop} {σ : St} {ops : Array Oper} {os : List Oper} {L : List (List Ky × List Ky)} {ty : TypeId} {ps : String} {af : Array Edge} {ds : Option Nat} {x y : Operand} {t : TypeId}
theorem qgy (r : Option (Nat × Ev × List (Nat × Ev))) : okK (zxt r) = true := by
 cases r with
 | none => rfl
 | some r => rfl
theorem qmq (h : zax (zry P σ t x y) fun r => (r.2.2.map (·.1)).Nodup /\ ∀ p ∈ r.2.2, p.1 ≠ r.1)
  (k : exd P ops os (L ++ [(za1 [x, y] ++ (rK [(σ.get P t y).cells] ++ zxt (zry P σ t x y)), dK ds ++ eK (stoW (zry P σ t x y)))]) ks Q ((σ.apdO (zry P σ t x y)).put ds (.one .any))) : exdS P ops ⟨ds, .store t x y, ty, ps, af, none⟩ os L ks Q σ := by
 obtain ⟨⟨e, z, cons⟩, h1, h2, h3⟩ := zap h
 refine ⟨_, _, _, ?_, k⟩
 have hloc : ∀ σ1, (∀ k ∈ za1 [x, y] ++ (rK [(σ.get P t y).cells] ++ zxt (zry P σ t x y)), zbb σ σ1 k) -> zry P σ1 t x y = some (e, z, cons) := fun σ1 hs => qfz hs h1
 rw [h1]
 show zgy P _ _ (dK ds ++ eK ((e, z) :: zso cons)) σ ((σ.apd e cons z).put ds _)
 rw [zd6]
 rw [h1] at hloc
 refine zgy.of (o := ⟨ds, _, ty, ps, af, none⟩) (l := (e, z) :: zso cons) (zbi (zbw _) (zbi (zwx _) (qgy _))) fun σ1 hs => ?_
 have hh := hloc σ1 hs
 have hs2 := zwg (σ := σ1) (ty := ty) (ps := ps) (af := af) (ds := ds) (x := x) (y := y) (t := t) (P := P) (by rw [hh]; exact ⟨h2, h3⟩)
 rw [hh] at hs2
 have hs2 : zak P ⟨ds, .store t x y, ty, ps, af, none⟩ σ1 ((σ1.apd e cons z).put ds (.one .any)) := hs2
 rw [zd6] at hs2
 exact hs2
end
attribute [go_sem] mkZ mkEv zxt stoW AF.ds c1P zvw zlb zdm zjh zim bxE PB PB0 mtK qjh znu bxA List.flatten_cons List.flatten_nil
end Go.Proofs.YtemnhgmgeijkcaaGreat
namespace Go.Proofs.YtemnhgmgeijkcaaGreat
set_option linter.unusedSimpArgs false
set_option linter.unusedVariables false
set_option linter.unusedSectionVars false
set_option maxRecDepth 4000
open Go.RowKit
variable {P : Program}
theorem Rel.afterB {W : List Nat} {bx' : Nat -> Option (List C)} {n0 : Nat -> Prop} {N : Nat} {σ : St} {g g' : Gh} {a : Act} {w w' : World} {ev' : Nat -> Option Ev} {F : List Nat} (h : Rel n0 N σ g a w) (hn0 : LtK n0 w) (hb : Bk (fun k => k < w.heap.size /\ ∀ b ∈ W, k ≠ g.β b) w w') (hdom : ∀ b, bx' b ≠ none ↔ σ.bx b ≠ none) (hsm : ∀ b, b ∉ W -> bx' b = σ.bx b) (hWσ : ∀ b ∈ W, σ.bx b ≠ none) (hn : New σ g (w.heap.size <= ·) w' ev' g' F) (hW : ∀ b ∈ W, ∀ cs, bx' b = some cs -> ∃ vs ty, w'.heap[g.β b]? = some (.cells vs ty (0, 0)) /\ CRs ⟨σ.sl, bx', ev'⟩ g' w' cs vs.toList) : Rel n0 N ⟨σ.sl, bx', ev'⟩ g' a w' := by
 have hlt : ∀ e x, σ.ev e = none -> ev' e = some x -> ∀ b ∈ g'.φ e, w.heap.size <= b := fun e x h1 h2 b hbb => ((hn.new e x h1 h2).2.2.1 b hbb).1
 have hold : ∀ e, σ.On e -> ∀ b ∈ g.φ e, b < w.heap.size := fun e he b hbb => by
  obtain ⟨x, hx, ho⟩ := he
  exact (h.evs e x hx ho).lt b hbb
 have hon : ∀ e, St.On ⟨σ.sl, bx', ev'⟩ e -> σ.ev e ≠ none -> σ.On e := fun e he hee => by
  obtain ⟨x, hx, ho⟩ := he
  exact ⟨x, (hn.old e hee).1.symm.trans hx, ho⟩
 have hne : ∀ e, St.On ⟨σ.sl, bx', ev'⟩ e -> ∃ x, ev' e = some x := fun e he => ⟨_, he.choose_spec.1⟩
 have m : Mv σ ⟨σ.sl, bx', ev'⟩ g g' w w' := by
  refine ⟨fun b hf => hb.block b ⟨hf.2.2.1, fun k hk e => hf.1 k (hWσ k hk) e.symm⟩, fun b hf => ⟨fun k hk => by rw [hn.β]; exact hf.1 k ((hdom k).1 hk), fun e x hx ho hh => ?_, Nat.lt_of_lt_of_le hf.2.2.1 hb.size, by rw [hn.A0]; exact hf.2.2.2⟩, fun b hbb => ⟨by rw [hn.β], (hdom b).2 hbb⟩, fun e n he => ?_, fun b hf e he hm => ?_⟩
  ·by_cases hee : σ.ev e = none
   ·have := hlt e x hee hx b (List.mem_of_mem_head? hh)
    have := hf.2.2.1
    omega
   ·rw [(hn.old e hee).2.2] at hh
    exact hf.2.1 e x ((hn.old e hee).1.symm.trans hx) ho hh
  ·obtain ⟨x, hx, hg⟩ := he
   have hee : σ.ev e ≠ none := by rw [hx]; simp
   exact ⟨⟨x, (hn.old e hee).1.trans hx, hg⟩, by rw [(hn.old e hee).2.1]⟩
  ·by_cases hee : σ.ev e = none
   ·obtain ⟨x, hx⟩ := hne e he
    have := hlt e x hee hx b hm
    have := hf.1.2.2.1
    omega
   ·rw [(hn.old e hee).2.2] at hm
    exact hf.2 e (hon e he hee) hm
 refine ⟨h.defers, h.size, by rw [hn.A0, hn.R0]; exact h.anew, fun i => by rw [hn.R0]; exact m.vr (h.slots i), fun b cs hbb => ?_, fun b hbb => by rw [hn.β]; exact h.base b ((hdom b).1 hbb), fun b b' h1 h2 h3 => by rw [hn.β] at h3; exact h.inj b b' ((hdom b).1 h1) ((hdom b').1 h2) h3, fun e x he ho => ?_, fun e x he ho => ?_, hn.slc, fun e he b hbb => ?_, fun e he b hbb => ?_, fun e he => ?_, fun e e' h1 h2 hne' b hb1 hb2 => ?_, fun e k he hk hm => ?_⟩
 ·by_cases hbW : b ∈ W
  ·rw [hn.β]; exact hW b hbW cs hbb
  have hbb : bx' b = some cs := hbb
  rw [hsm b hbW] at hbb
  obtain ⟨vs, ty, k1, k2⟩ := h.boxes b cs hbb
  have hne0 : σ.bx b ≠ none := by rw [hbb]; simp
  exact ⟨vs, ty, by rw [hn.β, hb.block _ ⟨h.lt hne0, fun k hk e => hbW (h.inj b k hne0 (hWσ k hk) e ▸ hk)⟩]; exact k1, m.crs k2⟩
 ·by_cases hee : σ.ev e = none
  ·obtain ⟨⟨k1, _, k0⟩, k2, k3, k4⟩ := hn.new e x hee he
   rw [k0]
   unfold za7 at k2
   obtain ⟨ao, cap, j1, j2, j3, j4⟩ := k2
   refine ⟨ao, cap, j1, j2, j3, ?_⟩
   rcases j4 with j4 | ⟨b, cells, ty, fps, j4, j5, j6, j7, j8⟩
   ·exact Or.inl j4
   ·exact Or.inr ⟨b, cells, ty, fps, j4, j5, j6, j7, by rw [if_pos k1]; exact j8⟩
  ·have he' := he
   simp only [(hn.old e hee).1] at he
   rw [(hn.old e hee).2.1, (hn.old e hee).2.2]
   exact m.evr (h.evs e x he ho) fun b hbb => hb.block b ⟨hold e ⟨x, he, ho⟩ b hbb, fun k hk e' => h.ebx e k ⟨x, he, ho⟩ (hWσ k hk) (e' ▸ hbb)⟩
 ·by_cases hee : σ.ev e = none
  ·obtain ⟨⟨_, k1, _⟩, _⟩ := hn.new e x hee he
   rw [k1] at ho; cases ho
  ·simp only [(hn.old e hee).1] at he
   rw [(hn.old e hee).2.1]
   exact ⟨m.rep (h.offs e x he ho).1, (h.offs e x he ho).2⟩
 ·by_cases hee : σ.ev e = none
  ·obtain ⟨x, hx⟩ := hne e he
   rw [hn.A0, hn.R0]
   exact h.anew b (hn0.new (hlt e x hee hx b hbb))
  ·rw [(hn.old e hee).2.2] at hbb
   rw [hn.A0, hn.R0]
   exact h.ebase e (hon e he hee) b hbb
 ·by_cases hee : σ.ev e = none
  ·obtain ⟨x, hx⟩ := hne e he
   exact hn0.new (hlt e x hee hx b hbb)
  ·rw [(hn.old e hee).2.2] at hbb
   exact h.etop e (hon e he hee) b hbb
 ·by_cases hee : σ.ev e = none
  ·obtain ⟨x, hx⟩ := hne e he
   exact (hn.new e x hee hx).2.2.2
  ·rw [(hn.old e hee).2.2]; exact h.nodup e (hon e he hee)
 ·obtain ⟨x, hx⟩ := hne e h1
  obtain ⟨x', hx'⟩ := hne e' h2
  by_cases e1 : σ.ev e = none <;> by_cases e2 : σ.ev e' = none
  ·exact hn.apart e e' e1 e2 (by rw [hx]; simp) (by rw [hx']; simp) hne' b hb1 hb2
  ·rw [(hn.old e' e2).2.2] at hb2
   have := hlt e x e1 hx b hb1
   have := hold e' (hon e' h2 e2) b hb2
   omega
  ·rw [(hn.old e e1).2.2] at hb1
   have := hlt e' x' e2 hx' b hb2
   have := hold e (hon e h1 e1) b hb1
   omega
  ·rw [(hn.old e e1).2.2] at hb1
   rw [(hn.old e' e2).2.2] at hb2
   exact h.apart e e' (hon e h1 e1) (hon e' h2 e2) hne' b hb1 hb2
 ·rw [hn.β] at hm
  by_cases hee : σ.ev e = none
  ·obtain ⟨x, hx⟩ := hne e he
   have := hlt e x hee hx _ hm
   have := h.lt ((hdom k).1 hk)
   omega
  ·rw [(hn.old e hee).2.2] at hm
   exact h.ebx e k (hon e he hee) ((hdom k).1 hk) hm
def gvQ : List V -> List (Bool × D) -> Prop
 | [], [] => True
 | v :: vs, (false, d) :: ds => rdV v d /\ gvQ vs ds
 | .one (.t x) :: vs, (true, .one t) :: ds => x = t /\ t.flat = true /\ gvQ vs ds
 | _, _ => False
theorem qfv {w : World} {A : Nat -> Prop} {t : T} {v : Value} (hf : t.flat = true) (h : zaw w A t v) : za7 w t v [] /\ zju t [] = [] := by
 cases t <;> simp only [T.flat, Bool.false_eq_true] at hf
 ·unfold zaw at h; unfold za7; exact ⟨⟨h.1, h.2.1, h.2.2, rfl⟩, rfl⟩
 ·unfold zaw at h; unfold za7; exact ⟨⟨h, rfl⟩, rfl⟩
 ·unfold zaw at h; unfold za7; exact ⟨⟨h.1, h.2, rfl⟩, rfl⟩
 ·unfold zaw at h; unfold za7; exact ⟨⟨h, rfl⟩, rfl⟩
theorem zko {σ : St} {g : Gh} {w : World} : ∀ {xs : List V} {ds : List (Bool × D)} {vs : List Value}, gvQ xs ds -> VRl σ g w xs vs -> za5 w (zc8 σ g w) ds vs [] []
 | [], [], vs, _, hv => ⟨hv, rfl, rfl⟩
 | [], _ :: _, _, h, _ => h.elim
 | x :: xs, [], _, h, _ => by cases x with
  | one c => cases c <;> exact h.elim
  | agg _ => exact h.elim
  | tup _ => exact h.elim
 | x :: xs, (false, d) :: ds, vs, h, hv => by
  obtain ⟨v, vs', rfl, h1, h2⟩ := hv
  have h : rdV x d /\ gvQ xs ds := by cases x with
   | one c => cases c <;> exact h
   | agg _ => exact h
   | tup _ => exact h
  exact ⟨v, vs', rfl, qjn h.1 h1, zko h.2 h2⟩
 | .one (.t x) :: xs, (true, .one t) :: ds, vs, h, hv => by
  obtain ⟨v, vs', rfl, h1, h2⟩ := hv
  obtain ⟨rfl, hf, h⟩ := h
  obtain ⟨k1, k2⟩ := qfv hf h1
  exact ⟨v, vs', [], [], [], [], rfl, rfl, rfl, ⟨k1, k2.symm⟩, zko h h2⟩
 | x :: _, (true, .agg _) :: _, _, h, _ => by cases x with
  | one c => cases c <;> exact h.elim
  | agg _ => exact h.elim
  | tup _ => exact h.elim
 | .one (.nl _) :: _, (true, .one _) :: _, _, h, _ => h.elim
 | .one (.ow _ _) :: _, (true, .one _) :: _, _, h, _ => h.elim
 | .one (.bx _ _) :: _, (true, .one _) :: _, _, h, _ => h.elim
 | .one (.el _ _) :: _, (true, .one _) :: _, _, h, _ => h.elim
 | .one (.eo _ _ _ _ _) :: _, (true, .one _) :: _, _, h, _ => h.elim
 | .one (.fn _ _) :: _, (true, .one _) :: _, _, h, _ => h.elim
 | .one (.cv _) :: _, (true, .one _) :: _, _, h, _ => h.elim
 | .one .any :: _, (true, .one _) :: _, _, h, _ => h.elim
 | .one (.rn _) :: _, (true, .one _) :: _, _, h, _ => h.elim
 | .one (.er _ _) :: _, (true, .one _) :: _, _, h, _ => h.elim
 | .agg _ :: _, (true, .one _) :: _, _, h, _ => h.elim
 | .tup _ :: _, (true, .one _) :: _, _, h, _ => h.elim
def zyt : List (Nat × List C) -> (Nat -> Option (List C)) -> (Nat -> Option (List C))
 | [], f => f
 | (k, cs) :: l, f => upd (zyt l f) k (some cs)
def boL (d : Nat) : Nat -> List Nat -> Bxs -> List (Nat × List C)
 | m, k :: W, b :: bx => (k, mC d m b) :: boL d (m + b.length) W bx
 | _, _, _ => []
theorem zuv (d : Nat) : ∀ (W : List Nat) (bx : Bxs) (m : Nat) (f : Nat -> Option (List C)), znu d m W bx f = zyt (boL d m W bx) f
 | [], bx, m, f => by unfold znu boL; rfl
 | k :: W, [], m, f => by unfold znu boL; rfl
 | k :: W, b :: bx, m, f => by unfold znu boL zyt; rw [zuv d W bx]
def mEl (d : Nat) : Nat -> List (Bool × T) -> List (Nat × Ev) -> List (Nat × Ev)
 | _, [], acc => acc
 | j, (true, .sl sz rows) :: ts, acc => mEl d (j + 1) ts ((d * 32 + j, ⟨true, sz, rows, 0, true⟩) :: acc)
 | j, (_, _) :: ts, acc => mEl d (j + 1) ts acc
theorem zul (d : Nat) : ∀ (ts : List (Bool × T)) (j : Nat) (acc : List (Nat × Ev)) (f : Nat -> Option Ev), mE d j ts (zm0 acc f) = zm0 (mEl d j ts acc) f
 | [], _, _, _ => rfl
 | (false, t) :: ts, j, acc, f => by
  have : mEl d j ((false, t) :: ts) acc = mEl d (j + 1) ts acc := by cases t <;> rfl
  rw [this]; exact zul d ts (j + 1) acc f
 | (true, t) :: ts, j, acc, f => by
  cases t
  case sl sz rows => exact zul d ts (j + 1) ((d * 32 + j, ⟨true, sz, rows, 0, true⟩) :: acc) f
  all_goals exact zul d ts (j + 1) acc f
theorem zj6 (d : Nat) : ∀ (ts : List (Bool × T)) (j : Nat) (acc : List (Nat × Ev)) (k : Ky), k ∈ eK acc -> k ∈ eK (mEl d j ts acc)
 | [], _, _, _, h => h
 | (false, t) :: ts, j, acc, k, h => by
  have : mEl d j ((false, t) :: ts) acc = mEl d (j + 1) ts acc := by cases t <;> rfl
  rw [this]; exact zj6 d ts (j + 1) acc k h
 | (true, t) :: ts, j, acc, k, h => by
  cases t
  case sl sz rows => exact zj6 d ts (j + 1) _ k (by unfold eK; exact List.mem_cons_of_mem _ h)
  all_goals exact zj6 d ts (j + 1) acc k h
theorem zu8 (d : Nat) : ∀ (ts : List (Bool × T)) (j : Nat) (acc : List (Nat × Ev)) (f f' : Nat -> Option Ev), (∀ e, (2, e) ∈ eK (mEl d j ts acc) -> f' e = f e) -> mF d j ts f -> mF d j ts f'
 | [], _, _, _, _, _, _ => trivial
 | (false, t) :: ts, j, acc, f, f', hk, h => by
  have e0 : mEl d j ((false, t) :: ts) acc = mEl d (j + 1) ts acc := by cases t <;> rfl
  rw [e0] at hk
  exact zu8 d ts (j + 1) acc f f' hk h
 | (true, t) :: ts, j, acc, f, f', hk, h => by
  cases t
  case sl sz rows =>
   obtain ⟨h1, h2⟩ := h
   have hm : (2, d * 32 + j) ∈ eK (mEl d j ((true, .sl sz rows) :: ts) acc) := zj6 d ts (j + 1) _ _ (by unfold eK; simp)
   refine ⟨(hk _ hm).trans h1, zu8 d ts (j + 1) ((d * 32 + j, ⟨true, sz, rows, 0, true⟩) :: acc) _ _ (fun e he => ?_) h2⟩
   by_cases hee : e = d * 32 + j
   ·subst hee; show upd _ _ _ _ = upd _ _ _ _; rw [zaj, zaj]
   ·show upd _ _ _ _ = upd _ _ _ _; rw [zaq _ _ hee, zaq _ _ hee]; exact hk e he
  all_goals exact ⟨h.1, zu8 d ts (j + 1) acc _ _ hk h.2⟩
def boK : List (Nat × List C) -> List Ky
 | [] => []
 | (k, _) :: l => (1, k) :: boK l
def wK1 : List Nat -> List Ky
 | [] => []
 | k :: l => (1, k) :: wK1 l
theorem zr8 {n e : Nat} : ∀ {l : List (Nat × List C)}, (n, e) ∈ boK l -> n = 1
 | [], h => by simp [boK] at h
 | (e', x) :: l, h => by
  simp only [boK, List.mem_cons, Prod.mk.injEq] at h
  rcases h with h | h
  ·exact h.1
  ·exact zr8 h
theorem qii : ∀ l, okK (boK l) = true
 | [] => rfl
 | (e, x) :: l => by have := qii l; unfold okK at *; simpa [boK] using this
theorem qi6 : ∀ l, okK (wK1 l) = true
 | [] => rfl
 | e :: l => by have := qi6 l; unfold okK at *; simpa [wK1] using this
theorem qay : ∀ {l : List (Nat × List C)} (f f' : Nat -> Option (List C)) {e : Nat}, (1, e) ∈ boK l -> zyt l f e = zyt l f' e
 | [], f, f', e, h => by simp [boK] at h
 | (e', x) :: l, f, f', e, h => by
  unfold zyt
  by_cases he : e = e'
  ·subst he; rw [zaj, zaj]
  ·rw [zaq _ _ he, zaq _ _ he]
   simp only [boK, List.mem_cons, Prod.mk.injEq] at h
   exact qay f f' (h.resolve_left fun hh => he hh.2)
theorem zng : ∀ {l : List (Nat × List C)} (f : Nat -> Option (List C)) {e : Nat}, (1, e) ∉ boK l -> zyt l f e = f e
 | [], f, e, h => rfl
 | (e', x) :: l, f, e, h => by
  simp only [boK, List.mem_cons, Prod.mk.injEq, true_and, not_or] at h
  unfold zyt
  rw [zaq _ _ h.1, zng f h.2]
def St.upEB (σ : St) (l : List (Nat × Ev)) (bl : List (Nat × List C)) : St := ⟨σ.sl, zyt bl σ.bx, zm0 l σ.ev⟩
theorem zgy.ofB {o : Oper} {σ : St} {R : List Ky} {l : List (Nat × Ev)} {bl : List (Nat × List C)} {v : V} {d : Nat} (hd : o.dst = some d) (hR : okK R = true) (h : ∀ σ1, (∀ k ∈ R, zbb σ σ1 k) -> zak P o σ1 ((σ1.upEB l bl).put (some d) v)) : zgy P o R (dK (some d) ++ (boK bl ++ eK l)) σ ((σ.upEB l bl).put (some d) v) := by
 have hW : okK (dK (some d) ++ (boK bl ++ eK l)) = true := zbi (zs6 _) (zbi (qii _) (zw7 _))
 refine ⟨hW, hR, fun k hk3 hk => ?_, fun σ1 h1 => ?_⟩
 ·simp only [List.mem_append, not_or] at hk
  refine zbb.trans ?_ (zf3 hk.1)
  obtain ⟨n, i⟩ := k
  match n, hk3 with
  | 0, _ => rfl
  | 1, _ => exact (zng σ.bx hk.2.1).symm
  | 2, _ => exact (zhz σ.ev hk.2.2).symm
 ·have : zth σ1 (dK (some d) ++ (boK bl ++ eK l)) ((σ.upEB l bl).put (some d) v) = (σ1.upEB l bl).put (some d) v := by
   refine zbb.all3 fun c i hc => ?_
   by_cases hin : (c, i) ∈ dK (some d) ++ (boK bl ++ eK l)
   ·refine (zg8 hW hin).trans ?_
    simp only [List.mem_append] at hin
    match c, hc with
    | 0, _ =>
     rcases hin with h | h | h
     ·simp only [dK, List.mem_cons, List.not_mem_nil, or_false, Prod.mk.injEq, true_and] at h
      subst h
      show upd _ _ _ _ = upd _ _ _ _
      rw [zaj, zaj]
     ·have := zr8 h; omega
     ·have := zq9 h; omega
    | 1, _ =>
     rcases hin with h | h | h
     ·simp [dK] at h
     ·exact qay _ _ h
     ·have := zq9 h; omega
    | 2, _ =>
     rcases hin with h | h | h
     ·simp [dK] at h
     ·have := zr8 h; omega
     ·exact zt5 _ _ h
   ·refine (zdu hc hin).trans ?_
    simp only [List.mem_append, not_or] at hin
    refine zbb.trans ?_ (zf3 hin.1)
    match c, hc with
    | 0, _ => rfl
    | 1, _ => exact (zng σ1.bx hin.2.1).symm
    | 2, _ => exact (zhz σ1.ev hin.2.2).symm
  rw [this]
  exact h σ1 h1
def St.callQ (σ : St) (d : Nat) (W : List Nat) (bx' : Bxs) (res : List (Bool × D)) : St := { sl := upd σ.sl d (zlw (mD d 0 res)), bx := zyt (boL d (zb7 res).length W bx') σ.bx, ev := zm0 (mEl d 0 (zb7 res ++ bx'.flatten) []) σ.ev }
theorem zvr (σ : St) (d : Nat) (W : List Nat) (bx' : Bxs) (res : List (Bool × D)) : σ.callQ d W bx' res = ((σ.upEB (mEl d 0 (zb7 res ++ bx'.flatten) []) (boL d (zb7 res).length W bx')).put (some d) (zlw (mD d 0 res))) := rfl
theorem zpx {W : List Nat} {o : Oper} {σ : St} {x : Operand} {asx : Array Operand} {ts : Array TypeId} {f : FuncId} {cvs : List V} {d : Nat} {bx bx' : Bxs} {l : List AF} {res : List (Bool × D)} (ho : o.op = .call ⟨.value x, asx, ts⟩) (hd : o.dst = some d)
  (h : PC P f bx l bx' res) (hc : za0 (σ.get P 0 x) = some (f, cvs)) (hWn : W.Nodup)
  (hv : mtK W l (σ.gets P asx ts ++ cvs) fun us => qjh σ W bx fun cs => gvQ (us ++ cs) (AF.ds l ++ bxA bx.flatten)) (hf : mF d 0 (zb7 res ++ bx'.flatten) σ.ev) : zak P o σ (σ.callQ d W bx' res) := by
 intro n0 N g a w hR hn hdN
 obtain ⟨vs, h1, h2⟩ := zdd hR ho hc h.1
 unfold Oper.wp
 rw [h1]
 let bs : Nat -> Nat := fun j => g.β (W.getD j 0)
 have hbs : ∀ j b, W[j]? = some b -> bs j = g.β b := fun j b hj => by show g.β (W.getD j 0) = _; rw [List.getD_eq_getElem?_getD, hj]; rfl
 obtain ⟨us, dvs, a1, a2, a3, rfl⟩ := zia hbs hv h2
 obtain ⟨cs, bvs, b1, b2, b3, b4, b5⟩ := zmz hR (bs := bs) (j := 0) (fun i b hi => by rw [Nat.zero_add]; exact hbs i b hi) a1
 have k2 := zko b1 (VRl.append a2 b2)
 have hWj : ∀ j, j < bx.length -> ∃ b, W[j]? = some b /\ b ∈ W /\ bs j = g.β b := fun j hj => by
  have hlt : j < W.length := by omega
  exact ⟨W[j], List.getElem?_eq_getElem hlt, List.getElem_mem hlt, hbs j _ (List.getElem?_eq_getElem hlt)⟩
 have hinj : ∀ i j, i < bx.length -> j < bx.length -> bs i = bs j -> i = j := fun i j hi hj he => by
  obtain ⟨b, e1, e2, e3⟩ := hWj i hi
  obtain ⟨c, f1, f2, f3⟩ := hWj j hj
  have : b = c := hR.inj b c (b5 b e2) (b5 c f2) (by rw [<- e3, <- f3]; exact he)
  subst this
  have hi' : i < W.length := by omega
  have hj' : j < W.length := by omega
  rw [List.getElem?_eq_getElem hi'] at e1
  rw [List.getElem?_eq_getElem hj'] at f1
  exact (List.getElem_inj hWn).1 ((Option.some.inj e1).trans (Option.some.inj f1).symm)
 have hfb : ∀ b, zc8 σ g w b -> ∀ j, j < bx.length -> b ≠ bs j := fun b hb j hj e => by
  obtain ⟨c, _, e2, e3⟩ := hWj j hj
  exact hb.1.1 c (b5 c e2) (by rw [<- e3, e])
 refine (h.2.2 w bs bvs dvs [] [] (zc8 σ g w) hinj (fun j _ => by simp) b3 (za5.keepA (fun b hb => ⟨⟨hb.1.2.2.1, by simp, hfb b hb⟩, hb⟩) k2) List.nodup_nil a3).mono ?_
 rintro e w' ⟨us', bvs', fp', tp', rfl, hbx', hlu, o1, o2, o3, hbk⟩
 obtain ⟨v1, v2, f1, f2, t1, t2, ev, ef, et, p1, p2⟩ := za5.split o1
 obtain ⟨rfl, rfl⟩ := List.append_inj ev (by rw [hlu, za5.len p1])
 subst ef
 obtain ⟨t1', p1'⟩ := p1.flat
 have pp := za5.append p1' p2
 rw [<- ziy] at pp
 have e0 : mE d 0 (zb7 res ++ bx'.flatten) σ.ev = zm0 (mEl d 0 (zb7 res ++ bx'.flatten) []) σ.ev := zul d _ 0 [] σ.ev
 have e1 : znu d (zb7 res).length W bx' σ.bx = zyt (boL d (zb7 res).length W bx') σ.bx := zuv d W bx' _ _
 obtain ⟨g', q1, q2, q3⟩ := New.mix (τ := σ) (g := g) (NB := fun b => w.heap.size <= b) (w' := w') d (zb7 res ++ bx'.flatten) _ (f1 ++ f2) _ 0 σ.ev g [] (New.refl _ _ _ _ hR.slc) hf pp o2 (fun b hb' => ⟨by simpa using o3 b hb', by simp⟩)
 have hbk' : Bk (fun k => k < w.heap.size /\ ∀ b ∈ W, k ≠ g.β b) w w' := ⟨hbk.os, hbk.tape, hbk.output, hbk.size, fun k hk => hbk.block k ⟨hk.1, by simp, fun j hj e => by
  obtain ⟨c, _, e2, e3⟩ := hWj j hj
  exact hk.2 c e2 (by rw [<- e3, e])⟩⟩
 have hWl : W.length = bx'.length := by rw [h.2.1]; omega
 have hdom : ∀ b, znu d (zb7 res).length W bx' σ.bx b ≠ none ↔ σ.bx b ≠ none := fun b => by
  by_cases hbW : b ∈ W
  ·exact ⟨fun _ => b5 b hbW, fun _ => qbr d W bx' _ _ b hWl hbW⟩
  ·rw [zou d W bx' _ _ b hbW]
 have hfree : ∀ k, ((k < w'.heap.size /\ k ∉ f1 ++ f2 /\ ∀ j, j < bx.length -> k ≠ bs j) /\ (zc8 σ g w k \/ w.heap.size <= k \/ k ∈ ([] : List Nat))) -> zc8 ⟨σ.sl, znu d (zb7 res).length W bx' σ.bx, mE d 0 (zb7 res ++ bx'.flatten) σ.ev⟩ g' w' k := fun k hk => by
  have hno : ∀ e, St.On ⟨σ.sl, znu d (zb7 res).length W bx' σ.bx, mE d 0 (zb7 res ++ bx'.flatten) σ.ev⟩ e -> k ∉ g'.φ e := fun e ho' hm => by
   by_cases hee : σ.ev e = none
   ·obtain ⟨x, hx, _⟩ := ho'
    have := ((q1.new e x hee hx).2.2.1 k hm).2
    rw [List.nil_append] at this
    exact hk.1.2.1 this
   ·rw [(q1.old e hee).2.2] at hm
    obtain ⟨x, hx, hon⟩ := ho'
    have ho2 : σ.On e := ⟨x, (q1.old e hee).1.symm.trans hx, hon⟩
    rcases hk.2 with h | h | h
    ·exact h.2 e ho2 hm
    ·obtain ⟨y, hy, hyo⟩ := ho2
     have := (hR.evs e y hy hyo).lt k hm; omega
    ·simp at h
  refine ⟨⟨fun j hj e => ?_, fun e x hx hon hh => hno e ⟨x, hx, hon⟩ (List.mem_of_mem_head? hh), hk.1.1, ?_⟩, hno⟩
  ·have hj' := (hdom j).1 hj
   rw [q1.β] at e
   rcases hk.2 with h | h | h
   ·exact h.1.1 j hj' e
   ·have := hR.lt hj'; omega
   ·simp at h
  ·rw [q1.A0]
   rcases hk.2 with h | h | h
   ·exact h.1.2.2.2
   ·exact (hR.anew k (hn.new h)).1
   ·simp at h
 have hcr := q3 ⟨σ.sl, znu d (zb7 res).length W bx' σ.bx, mE d 0 (zb7 res ++ bx'.flatten) σ.ev⟩ w' rfl fun t v h => zaw.keep (fun _ _ => rfl) hfree t v h
 obtain ⟨hc1, hc2⟩ := hcr.split_flat (A := fun _ => True) (w' := w') (m := 0) (za5.one_vals p1)
 have hR' := hR.afterB hn hbk' hdom (fun b hb => zou d W bx' _ _ b hb) b5 q1 (zmt d W bx' bvs' 0 (zb7 res).length σ.bx (fun i b hi => by rw [Nat.zero_add]; exact hbs i b hi) hbx' hc2 hWl)
 have hBk : Bk n0 w w' := ⟨hbk.os, hbk.tape, hbk.output, hbk.size, fun k hk => hbk.block k ⟨hn k hk, by simp, fun j hj e => by
  obtain ⟨c, _, e2, e3⟩ := hWj j hj
  exact hR.base c (b5 c e2) (by rw [<- e3, <- e]; exact hk)⟩⟩
 refine ⟨g', ?_, hBk, q1.A0, q1.R0⟩
 have hp := hR'.put (some d) (x := zlw (mD d 0 res)) (v := zcp us') (zeb (zxe d 0 p1 hc1) (zug d res 0)) (fun i hi => by cases hi; exact hdN d hd)
 rw [e0, e1] at hp
 rw [hd]
 exact hp
section
variable {ks : List Fr} {Q : Exit -> St -> Prop} {σ : St} {ops : Array Oper} {os : List Oper} {L : List (List Ky × List Ky)} {ty : TypeId} {ps : String} {af : Array Edge} {d : Nat} {x : Operand} {asx : Array Operand} {ts : Array TypeId} {f : FuncId} {bx bx' : Bxs} {l : List AF} {res : List (Bool × D)}
theorem callQ (W : List Nat) (h : PC P f bx l bx' res) (hWn : W.Nodup)
  (hp : zax (za0 (σ.get P 0 x)) fun p => p.1 = f /\ mtK W l (σ.gets P asx ts ++ p.2) fun us => qjh σ W bx fun cs => gvQ (us ++ cs) (AF.ds l ++ bxA bx.flatten)) (hf : mF d 0 (zb7 res ++ bx'.flatten) σ.ev)
  (k : exo P ops os ks Q (σ.callQ d W bx' res)) : exo P ops (⟨some d, .call ⟨.value x, asx, ts⟩, ty, ps, af, none⟩ :: os) ks Q σ := by
 obtain ⟨⟨f', cvs⟩, h1, rfl, h2⟩ := zap hp
 exact zc0 rfl rfl (zpx rfl rfl h h1 hWn h2 hf) k
theorem zwd {σ1 : St} : ∀ {W : List Nat} {bx : Bxs} {K : List V -> Prop}, (∀ k ∈ wK1 W, zbb σ σ1 k) -> qjh σ W bx K -> qjh σ1 W bx K
 | [], [], _, _, h => h
 | [], _ :: _, _, _, h => h.elim
 | _ :: _, [], _, _, h => h.elim
 | k :: W, b :: bx, K, hs, h => by
  obtain ⟨cs, h1, h2, h3⟩ := zap h
  have : σ1.bx k = some cs := (Eq.symm (hs (1, k) (by simp [wK1]))).trans h1
  show zax (σ1.bx k) _
  rw [this]
  exact ⟨h2, zwd (W := W) (fun k hk => hs k (by simp [wK1, hk])) h3⟩
theorem zzf {σ1 : St} {asx : Array Operand} {ts : Array TypeId} (h : ∀ k ∈ za1 asx.toList, zbb σ σ1 k) : σ1.gets P asx ts = σ.gets P asx ts := by
 unfold St.gets
 refine List.map_congr_left fun p hp => ?_
 exact zb9 h (List.of_mem_zip hp).1 _
theorem zlu {x : Operand} {l : List Operand} {k : Ky} (h : k ∈ za1 l) : k ∈ za1 (x :: l) := by
 cases x <;> first | exact List.mem_cons_of_mem _ h | exact h
theorem dCallQ (W : List Nat) (h : PC P f bx l bx' res) (hWn : W.Nodup)
  (hp : zax (za0 (σ.get P 0 x)) fun p => p.1 = f /\ mtK W l (σ.gets P asx ts ++ p.2) fun us => qjh σ W bx fun cs => gvQ (us ++ cs) (AF.ds l ++ bxA bx.flatten)) (hf : mF d 0 (zb7 res ++ bx'.flatten) σ.ev)
  (k : exd P ops os (L ++ [(za1 (x :: asx.toList) ++ (wK1 W ++ eK (mEl d 0 (zb7 res ++ bx'.flatten) [])), dK (some d) ++ (boK (boL d (zb7 res).length W bx') ++ eK (mEl d 0 (zb7 res ++ bx'.flatten) [])))]) ks Q (σ.callQ d W bx' res)) :
  exd P ops (⟨some d, .call ⟨.value x, asx, ts⟩, ty, ps, af, none⟩ :: os) L ks Q σ := by
 obtain ⟨⟨f', cvs⟩, h1, rfl, h2⟩ := zap hp
 refine zft rfl rfl ?_ k
 rw [zvr]
 refine zgy.ofB rfl (zbi (zbw _) (zbi (qi6 _) (zw7 _))) fun σ1 hs => ?_
 rw [<- zvr]
 have e1 : σ1.get P 0 x = σ.get P 0 x := zb9 (l := x :: asx.toList) (fun k hk => hs k (by simp only [List.mem_append]; exact Or.inl hk)) (by simp) 0
 have e2 : σ1.gets P asx ts = σ.gets P asx ts := zzf fun k hk => hs k (by simp only [List.mem_append]; exact Or.inl (zlu hk))
 refine zpx rfl rfl h (by rw [e1]; exact h1) hWn (by rw [e2]; exact qfi (fun us hu => zwd (fun k hk => hs k (by simp only [List.mem_append]; exact Or.inr (Or.inl hk))) hu) h2) ?_
 exact zu8 d _ 0 [] _ _ (fun e he => Eq.symm (hs (2, e) (by simp only [List.mem_append]; exact Or.inr (Or.inr he)))) hf
theorem za6 {ds0 res0 : List D} {gR : List Ky} (h : FC P f ds0 res0) (hp : zax (za0 (σ.get P 0 x)) fun p => p.1 = f /\ VDs σ (σ.gets P asx ts ++ p.2) ds0 /\ zg5 d 0 (zbd res0) σ.ev)
  (k : exd P ops os (L ++ [(gR ++ (za1 (x :: asx.toList) ++ (vsK σ (σ.gets P asx ts ++ qkb (za0 (σ.get P 0 x))) ++ eK (owL d 0 (zbd res0)))), dK (some d) ++ eK (owL d 0 (zbd res0)))]) ks Q (σ.callF d res0)) :
  zru P ops ⟨some d, .call ⟨.value x, asx, ts⟩, ty, ps, af, none⟩ os L gR ks Q σ := by
 obtain ⟨⟨f', cvs⟩, h1, rfl, h2, h3⟩ := zap hp
 rw [h1] at k
 exact qlh _ _ _ _ _ _ rfl (zqe rfl rfl h h1 h2 h3) k
end
attribute [go_sem] gvQ zyt boL mEl boK wK1 St.callQ
end Go.Proofs.YtemnhgmgeijkcaaGreat
namespace Go.Proofs.YtemnhgmgeijkcaaGreat
set_option linter.unusedSimpArgs false
set_option linter.unusedVariables false
set_option linter.unusedSectionVars false
set_option maxRecDepth 4000
open Go.RowKit
theorem qck (s : Str) : FC Tryz.prog 290 [sD s] [bD false] := by
 refine zag Tryz.call290 Tryz.func290 rfl (by kernel_rfl) (zau (by kernel_rfl)) ?_
 simp -implicitDefEqProofs only [go_sem, Tryz.results290]
 simp
def cmpI (s t : Str) : Int := if Op.bytesLess s t = true then -1 else if (s == t) = true then 0 else 1
theorem qig (s t : Str) : FC Tryz.prog 300 [sD s, sD t] [iD (cmpI s t)] := by
 have hc : cmpI s t = if Op.bytesLess s t = true then -1 else if (s == t) = true then 0 else 1 := rfl
 refine zag Tryz.call300 Tryz.func300 rfl (by kernel_rfl) (zau (by kernel_rfl)) ?_
 simp -implicitDefEqProofs only [go_sem, Tryz.results300]
 refine callF (qck s) (by simp -implicitDefEqProofs only [go_sem]) ?_
 simp -implicitDefEqProofs only [go_sem]
 refine callF (qck t) (by simp -implicitDefEqProofs only [go_sem]) ?_
 simp -implicitDefEqProofs only [go_sem]
 refine ⟨fun h => by rw [hc, if_pos h], fun h => ⟨fun h2 => ?_, fun h2 => ?_⟩⟩
 ·rw [h, Bool.false_or, Bool.not_eq_true'] at h2
  rw [hc, h, h2]; rfl
 ·rw [h, Bool.false_or, Bool.not_eq_false'] at h2
  rw [hc, h, h2]; rfl
def bnC (p : Str × Tm) : List T := .str p.1 :: tmC p.2
def sbS (l : List (Str × Tm)) : T := .sl 3 (l.map bnC)
theorem zh6 (n : Str) (t : Tm) : bnC (n, t) = [.str n, .str t.name, .sl 2 (t.args.map tmC)] := by unfold bnC; rw [zab]
theorem qch (n : Str) (t : Tm) (x : Str) : FC Tryz.prog 299 [.agg (bnC (n, t)), sD x] [iD (cmpI n x)] := by
 rw [zh6]
 refine zag Tryz.call299 Tryz.func299 rfl (by kernel_rfl) (zau (by kernel_rfl)) ?_
 simp -implicitDefEqProofs only [go_sem, Tryz.results299]
 refine callF (qig n x) (by simp -implicitDefEqProofs only [go_sem]) ?_
 simp -implicitDefEqProofs only [go_sem]
theorem zu3 (n : Str) (t : Tm) (x : Str) : FC Tryz.prog 298 [.one (sbS [(n, t)]), sD x, .one (.fn 299 [])] [iD (if Op.bytesLess n x = true then 1 else 0), bD (n == x)] := by
 have H := qch n t x
 have hS : sbS [(n, t)] = .sl 3 [bnC (n, t)] := rfl
 rw [hS]
 rw [zh6] at H ⊢
 have hc : cmpI n x = if Op.bytesLess n x = true then -1 else if (n == x) = true then 0 else 1 := rfl
 refine zag Tryz.call298 Tryz.func298 rfl (by kernel_rfl) (zau (by kernel_rfl)) ?_
 simp -implicitDefEqProofs only [go_sem, Tryz.results298]
 refine zad (fun p : Nat × Nat => hd [(0, vT (.sl 3 [[.str n, .str t.name, .sl 2 (t.args.map tmC)]])), (1, vT (.str x)), (2, vT (.fn 299 [])), (8, vI (1 : Nat)), (9, vI p.1), (10, vI p.2)] [] []) (fun p => p = (0, 1) \/ (p = (1, 1) /\ Op.bytesLess n x = true) \/ (p = (0, 0) /\ Op.bytesLess n x = false)) (fun p => p.2 - p.1) (0, 1) (zac ?_) (Or.inl rfl) ?_
 ·simp -implicitDefEqProofs only [go_sem]
 ·rintro p (rfl | ⟨rfl, hl⟩ | ⟨rfl, hl⟩)
  ·have hz : (IntKind.u64.wrap (IntKind.i64.wrap 1)).fdiv (2 ^ min 1 64) = 0 := by decide
   have hz2 : IntKind.i64.wrap 0 = 0 := by decide
   simp -implicitDefEqProofs only [go_sem, hz, hz2]
   refine callF (H) (by simp -implicitDefEqProofs only [go_sem]) ?_
   simp -implicitDefEqProofs only [go_sem]
   cases hl : Op.bytesLess n x
   ·have hi : decide (cmpI n x < 0) = false := by rw [hc, hl]; cases n == x <;> rfl
    simp -implicitDefEqProofs only [go_sem, hi]
    refine ⟨(0, 0), Or.inr (Or.inr rfl), by decide, zac ?_⟩
    simp -implicitDefEqProofs only [go_sem]
   ·have hi : decide (cmpI n x < 0) = true := by rw [hc, hl]; rfl
    have hz3 : IntKind.i64.wrap 1 = 1 := by decide
    simp -implicitDefEqProofs only [go_sem, hi]
    refine ⟨(1, 1), Or.inr (Or.inl rfl), by decide, zac ?_⟩
    simp -implicitDefEqProofs only [go_sem, hz3]
  ·rw [if_pos hl]
   simp -implicitDefEqProofs only [go_sem]
   have : (n == x) = false := by
    rw [beq_eq_false_iff_ne]
    rintro rfl
    rw [zo0, decide_eq_true_eq] at hl
    exact zni n hl
   rw [this]
  ·rw [hl, if_neg (by simp)]
   simp -implicitDefEqProofs only [go_sem]
   refine callF (H) (by simp -implicitDefEqProofs only [go_sem]) ?_
   simp -implicitDefEqProofs only [go_sem]
   rw [hc, hl]
   cases n == x <;> rfl
theorem zw5 (n : Str) (t : Tm) : XC Tryz.prog 295 [(false, .agg [sbS [(n, t)]]), (false, sD n)] [(false, tmD t), (true, bD true)] := by
 have H := zu3 n t n
 rw [show Op.bytesLess n n = false by rw [zo0, decide_eq_false_iff_not]; exact zni n, beq_self_eq_true] at H
 have hS : sbS [(n, t)] = .sl 3 [bnC (n, t)] := rfl
 rw [hS, zh6] at H ⊢
 simp only [tmD, zab]
 refine XC_of Tryz.call295 Tryz.func295 rfl (by kernel_rfl) (by simp only [List.length_cons, List.length_nil, Tryz.ntmps295]; omega) (by simp [zb6, T.isPin]) ?_
 simp -implicitDefEqProofs only [go_sem, Tryz.results295]
 refine callF (H) (by simp -implicitDefEqProofs only [go_sem]) ?_
 simp -implicitDefEqProofs only [go_sem]
theorem zzr (n : Str) (t : Tm) (x : Str) (h : (n == x) = false) : XC Tryz.prog 295 [(false, .agg [sbS [(n, t)]]), (false, sD x)] [(false, tmD (.mk [] [])), (true, bD false)] := by
 have H := zu3 n t x
 rw [h] at H
 have hS : sbS [(n, t)] = .sl 3 [bnC (n, t)] := rfl
 rw [hS, zh6] at H ⊢
 simp only [tmD, zab]
 refine XC_of Tryz.call295 Tryz.func295 rfl (by kernel_rfl) (by simp only [List.length_cons, List.length_nil, Tryz.ntmps295]; omega) (by simp [zb6, T.isPin]) ?_
 simp -implicitDefEqProofs only [go_sem, Tryz.results295]
 refine callF (H) (by simp -implicitDefEqProofs only [go_sem]) ?_
 simp -implicitDefEqProofs only [go_sem]
 exact Or.inl ⟨rfl, rfl⟩
def zfy (n : Str) (t : Tm) : Tm -> Tm := Tm.fold fun m _ rs => if rs.length = 0 then (if (n == m) = true then t else .mk m []) else .mk m rs
theorem zo7 (n : Str) (t a : Tm) : zfy n t a = if a.args.length = 0 then (if (n == a.name) = true then t else .mk a.name []) else .mk a.name (a.args.map (zfy n t)) := by
 unfold zfy
 rw [Tm.fold_eq]
 simp only [List.length_map]
theorem qhz (n : Str) (t : Tm) (ht : t.wt <= 1048576) (a : Tm) (ha : a.args.length <= 1048576) (H : ∀ x ∈ a.args, FC Tryz.prog 279 [.agg [sbS [(n, t)]], tmD x] [tmD (zfy n t x)]) : FC Tryz.prog 279 [.agg [sbS [(n, t)]], tmD a] [tmD (zfy n t a)] := by
 have hv := zo7 n t a
 have HY := zw5 n t
 have HN := zzr n t
 have HK := ziq t ht
 have hS : sbS [(n, t)] = .sl 3 [bnC (n, t)] := rfl
 rw [hS, zh6] at HY HN H ⊢
 by_cases h0 : a.args.length = 0
 ·rw [if_pos h0] at hv
  cases hn : n == a.name
  ·have HN := HN a.name hn
   rw [hn, if_neg (by simp)] at hv
   rw [hv]
   have HN : XC Tryz.prog 295 [(false, .agg [.sl 3 [[.str n, .str t.name, .sl 2 (t.args.map tmC)]]]), (false, sD a.name)] [(false, .agg [.str [], .sl 2 []]), (true, bD false)] := HN
   have e1 : tmD (.mk a.name []) = .agg [.str a.name, .sl 2 []] := rfl
   rw [e1]
   simp only [tmD, zab a]
   refine zg1 Tryz.call279 Tryz.func279 rfl (by kernel_rfl) (zau (by kernel_rfl)) ?_
   simp -implicitDefEqProofs only [go_sem, Tryz.results279, h0]
   refine qiz [3, 4] [15, 17] [] (HN) (by simp -implicitDefEqProofs only [go_sem]) (by simp -implicitDefEqProofs only [go_sem]) (by simp -implicitDefEqProofs only [go_sem]) (by simp -implicitDefEqProofs only [go_sem]) ?_
   simp -implicitDefEqProofs only [go_sem]
  ·have hn' : n = a.name := by simpa using hn
   rw [hn, if_pos rfl] at hv
   rw [hv]
   rw [hn'] at HY ⊢
   simp only [tmD, zab] at HY HK ⊢
   refine zg1 Tryz.call279 Tryz.func279 rfl (by kernel_rfl) (zau (by kernel_rfl)) ?_
   simp -implicitDefEqProofs only [go_sem, Tryz.results279, h0]
   refine qiz [3, 4] [15, 17] [] (HY) (by simp -implicitDefEqProofs only [go_sem]) (by simp -implicitDefEqProofs only [go_sem]) (by simp -implicitDefEqProofs only [go_sem]) (by simp -implicitDefEqProofs only [go_sem]) ?_
   simp -implicitDefEqProofs only [go_sem]
   refine callF (HK) (by simp -implicitDefEqProofs only [go_sem]) ?_
   simp -implicitDefEqProofs only [go_sem]
 ·have hb : ((a.args.length : Int) == 0) = false := by
   rw [beq_eq_false_iff_ne]; omega
  rw [if_neg h0] at hv
  rw [hv]
  have e1 : tmD (.mk a.name (a.args.map (zfy n t))) = .agg [.str a.name, .sl 2 (a.args.map fun x => tmC (zfy n t x))] := by unfold tmD; rw [zab]; simp only [Tm.name, Tm.args, List.map_map, Function.comp_def]
  rw [e1]
  simp only [tmD, zab a] at H ⊢
  refine zag Tryz.call279 Tryz.func279 rfl (by kernel_rfl) (zau (by kernel_rfl)) ?_
  simp -implicitDefEqProofs only [go_sem, Tryz.results279, hb]
  refine drawn (by kernel_rfl) ?_
  simp -implicitDefEqProofs only [go_sem]
  refine dMakeD (by simp -implicitDefEqProofs only [go_sem]; omega) ?_
  simp -implicitDefEqProofs only [go_sem]
  refine ⟨by kernel_rfl, ?_⟩
  refine zad (fun k : Nat => hd [(2, .one (.bx 2 0)), (4, .one (.bx 4 0)), (7, .one (.bx 7 0)), (35, vT (tmS a.args)), (36, vI a.args.length), (37, vI k)] [(2, [.t (.sl 3 [[.str n, .str t.name, .sl 2 (t.args.map tmC)]])]), (4, [.t (.str []), .nl 2]), (7, [.t (.str a.name), .ow 1024 0])] [(1024, ⟨true, 2, ((a.args.take k).map fun x => tmC (zfy n t x)) ++ List.replicate (a.args.length - k) [.str [], .sl 2 []], 0, true⟩)]) (fun k => k <= a.args.length) (fun k => a.args.length - k) 0 (zac ?_) (Nat.zero_le _) ?_
  ·simp -implicitDefEqProofs only [go_sem]
   simp
  ·intro k hk
   by_cases hlt : k < a.args.length
   ·have hlen : ((a.args.take k).map (fun x => tmC (zfy n t x)) ++ List.replicate (a.args.length - k) [T.str [], T.sl 2 []]).length = a.args.length := by simp; omega
    have HC := H a.args[k] (List.getElem_mem hlt)
    have hlt2 : k < k + (a.args.length - k) := by omega
    simp only [zab a.args[k], zab (zfy n t a.args[k])] at HC
    simp -implicitDefEqProofs only [go_sem, List.length_map, zaf, hlt, zab a.args[k]]
    refine drawn (by kernel_rfl) ?_
    simp -implicitDefEqProofs only [go_sem]
    refine zan (HC) (by simp -implicitDefEqProofs only [go_sem, hlen, hlt, List.length_append, List.length_map, List.length_take, List.length_replicate, Nat.min_eq_left hk, hlt2]) ?_
    simp -implicitDefEqProofs only [go_sem, hlen, hlt, List.length_append, List.length_map, List.length_take, List.length_replicate, Nat.min_eq_left hk, hlt2]
    refine qmq (by simp -implicitDefEqProofs only [go_sem]; simp) ?_
    simp -implicitDefEqProofs only [go_sem]
    refine ⟨by kernel_rfl, k + 1, hlt, by omega, zac ?_⟩
    simp -implicitDefEqProofs only [go_sem]
    have hf := zgg ((a.args.take k).map fun x => tmC (zfy n t x)) a.args.length k [T.str [], T.sl 2 []] (tmC (zfy n t a.args[k])) (by simp; omega) hlt (by simp [zab])
    rw [zas (by omega), <- zab (zfy n t a.args[k]), hf, List.take_succ_eq_append_getElem hlt, List.map_append, List.map_singleton]
    exact ⟨rfl, rfl⟩
   ·have ht : a.args.take k = a.args := List.take_of_length_le (by omega)
    simp -implicitDefEqProofs only [go_sem, hlt, ht]
    simp [show a.args.length - k = 0 by omega]
theorem qlu (n : Str) (t : Tm) (ht : t.wt <= 1048576) : ∀ a : Tm, a.wt <= 1048576 -> FC Tryz.prog 279 [.agg [sbS [(n, t)]], tmD a] [tmD (zfy n t a)] :=
 zbx fun m xs ih hs => by
  obtain ⟨h1, h2⟩ := Tm.wt_args hs
  exact qhz n t ht (.mk m xs) h1 fun x hx => ih x hx (h2 x hx)
def zhj (n : Str) : Tm -> Nat := Tm.fold fun m _ rs => (if (m == n) = true then 1 else 0) + rs.sum
theorem zs9 (n : Str) (a : Tm) : zhj n a = (if (a.name == n) = true then 1 else 0) + (a.args.map (zhj n)).sum := by unfold zhj; rw [Tm.fold_eq]
theorem zyc (n : Str) : ∀ a : Tm, zhj n a <= a.nodes := zbx fun m xs ih => by
 rw [zs9, Tm.nodes_eq]
 have : (xs.map (zhj n)).sum <= (xs.map Tm.nodes).sum := by
  revert ih
  induction xs with
  | nil => simp
  | cons x xs ih2 =>
   intro ih
   have h1 := ih x (by simp)
   have h2 := ih2 fun y hy => ih y (by simp [hy])
   simp only [List.map_cons, List.sum_cons]
   omega
 show (if (m == n) = true then 1 else 0) + (xs.map (zhj n)).sum <= 1 + (xs.map Tm.nodes).sum
 split <;> omega
theorem zpp (n : Str) (a : Tm) (ha : a.wt <= 1099511627776) (H : ∀ x ∈ a.args, FC Tryz.prog 294 [tmD x, sD n] [iD (zhj n x)]) : FC Tryz.prog 294 [tmD a, sD n] [iD (zhj n a)] := by
 have hv := zs9 n a
 have hN := zfh a
 have hNe := a.nodes_eq
 have hle := zyc n a
 simp only [tmD, zab a]
 refine zag Tryz.call294 Tryz.func294 rfl (by kernel_rfl) (zau (by kernel_rfl)) ?_
 simp -implicitDefEqProofs only [go_sem, Tryz.results294]
 obtain ⟨z, hz⟩ : ∃ z : Nat, (if (a.name == n) = true then 1 else 0) = z := ⟨_, rfl⟩
 rw [hz] at hv
 cases hn : a.name == n
 all_goals
  rw [hn] at hz
  simp only [Bool.false_eq_true, if_true, if_false] at hz
  simp -implicitDefEqProofs only [go_sem, hn]
  refine zad (fun k : Nat => hd [(1, vT (.str n)), (5, vI (z + ((a.args.take k).map (zhj n)).sum : Nat)), (13, vT (tmS a.args)), (14, vI a.args.length), (15, vI k)] [] []) (fun k => k <= a.args.length) (fun k => a.args.length - k) 0 (zac ?_) (Nat.zero_le _) ?_
  ·simp -implicitDefEqProofs only [go_sem]
   subst hz
   rfl
  ·intro k hk
   by_cases hlt : k < a.args.length
   ·have HC := H a.args[k] (List.getElem_mem hlt)
    simp only [tmD, zab a.args[k]] at HC
    have hsm : ((a.args.take (k + 1)).map (zhj n)).sum = ((a.args.take k).map (zhj n)).sum + zhj n a.args[k] := by rw [List.take_succ_eq_append_getElem hlt, List.map_append, List.sum_append, List.map_singleton, List.sum_singleton]
    have hle2 : ((a.args.take (k + 1)).map (zhj n)).sum <= (a.args.map (zhj n)).sum := by
     have := congrArg (fun l => (l.map (zhj n)).sum) (List.take_append_drop (k + 1) a.args)
     simp only [List.map_append, List.sum_append] at this
     omega
    have hlen : a.args.length <= a.wt := by have := a.wt_eq; omega
    simp -implicitDefEqProofs only [go_sem, zaf, hlt, zab a.args[k]]
    refine callF (HC) (by simp -implicitDefEqProofs only [go_sem]) ?_
    simp -implicitDefEqProofs only [go_sem]
    refine ⟨k + 1, hlt, by omega, zac ?_⟩
    simp -implicitDefEqProofs only [go_sem]
    rw [zas (by omega), zbk (by omega) (by omega), hsm]
    exact ⟨by congr 1; omega, rfl⟩
   ·simp -implicitDefEqProofs only [go_sem, hlt]
    rw [hv, List.take_of_length_le (by omega)]
theorem zty (n : Str) : ∀ a : Tm, a.wt <= 1099511627776 -> FC Tryz.prog 294 [tmD a, sD n] [iD (zhj n a)] :=
 zbx fun m xs ih hs => zpp n (.mk m xs) hs fun x hx => ih x hx (Nat.le_trans (zok (a := .mk m xs) hx) hs)
theorem qfp (n : Str) (a : Tm) (hs : a.wt <= 1099511627776) : FC Tryz.prog 277 [sD n, tmD a] [bD (decide (0 < zhj n a))] := by
 have H := zty n a hs
 simp only [tmD, zab] at H ⊢
 have e : decide ((0 : Int) < (zhj n a : Int)) = decide (0 < zhj n a) := by rw [Bool.eq_iff_iff, decide_eq_true_eq, decide_eq_true_eq]; omega
 refine zag Tryz.call277 Tryz.func277 rfl (by kernel_rfl) (zau (by kernel_rfl)) ?_
 simp -implicitDefEqProofs only [go_sem, Tryz.results277]
 refine callF (H) (by simp -implicitDefEqProofs only [go_sem]) ?_
 simp -implicitDefEqProofs only [go_sem]
 rw [e]
end Go.Proofs.YtemnhgmgeijkcaaGreat
namespace Go.Proofs.YtemnhgmgeijkcaaGreat
set_option linter.unusedSimpArgs false
set_option linter.unusedVariables false
set_option linter.unusedSectionVars false
set_option maxRecDepth 4000
open Go.RowKit
def eqL {α : Type} (p : α -> α -> Bool) : List α -> List α -> Bool
 | [], [] => true
 | a :: xs, b :: ys => p a b && eqL p xs ys
 | _, _ => false
theorem ztw {α : Type} {p : α -> α -> Bool} : ∀ {xs ys : List α}, xs.length ≠ ys.length -> eqL p xs ys = false
 | [], [], h => absurd rfl h
 | [], _ :: _, _ => rfl
 | _ :: _, [], _ => rfl
 | a :: xs, b :: ys, h => by simp only [eqL]; rw [ztw (by simpa using h), Bool.and_false]
theorem zj0 {α : Type} {p : α -> α -> Bool} : ∀ {xs ys : List α}, (∀ x ∈ xs, ∀ y, p x y = same x y) -> eqL p xs ys = same xs ys
 | [], [], _ => zdt.symm
 | [], _ :: _, _ => (zbv.2 (by simp)).symm
 | _ :: _, [], _ => (zbv.2 (by simp)).symm
 | a :: xs, b :: ys, h => by simp only [eqL]; rw [zbz, h a (by simp) b, zj0 fun x hx y => h x (by simp [hx]) y]
set_option maxRecDepth 10000 in
set_option maxHeartbeats 400000 in
theorem zku (xs ys : List Tm) (p : Tm -> Tm -> Bool) (g : FuncId) (caps : List T) (H : ∀ x ∈ xs, ∀ y ∈ ys, FC Tryz.prog g (tmD x :: tmD y :: caps.map .one) [bD (p x y)]) : FC Tryz.prog 230 [.one (tmS xs), .one (tmS ys), .one (.fn g caps)] [bD (eqL p xs ys)] := by
 refine zc7 (fun hw => ?_) Tryz.call230
 have hl : xs.length <= 9223372036854775807 := by simpa [zfj, wfT] using hw.1.1
 have hl2 : ys.length <= 9223372036854775807 := by simpa [zfj, wfT] using hw.2.1.1
 refine zag Tryz.call230 Tryz.func230 rfl (by kernel_rfl) (zau (by kernel_rfl)) ?_
 simp -implicitDefEqProofs only [go_sem, Tryz.results230]
 refine ⟨fun h => ?_, fun h => ?_⟩
 ·rw [ztw (by rintro e; simp [e] at h)]
 ·have hlen : xs.length = ys.length := by simp at h; omega
  refine zad (fun k : Nat => hd [(1, vT (tmS ys)), (2, .one (.t (.fn g caps))), (15, vT (tmS xs)), (16, vI xs.length), (17, vI k)] [] []) (fun k => k <= xs.length /\ eqL p xs ys = eqL p (xs.drop k) (ys.drop k)) (fun k => xs.length - k) 0 (zac ?_) ?_ ?_
  ·simp -implicitDefEqProofs only [go_sem]
  ·simp
  ·intro k ⟨hk, hr⟩
   by_cases hlt : k < xs.length
   ·have hk2 : k < ys.length := by omega
    simp -implicitDefEqProofs only [go_sem, List.length_map, zaf, hlt, hk2, zab]
    refine callF (H xs[k] (List.getElem_mem hlt) ys[k] (List.getElem_mem hk2)) (by simp -implicitDefEqProofs only [go_sem, zab]) ?_
    simp -implicitDefEqProofs only [go_sem, zab]
    rw [List.drop_eq_getElem_cons hlt, List.drop_eq_getElem_cons hk2, eqL] at hr
    refine ⟨fun h => ?_, fun h => ?_⟩
    ·rw [hr, show p xs[k] ys[k] = false by simpa using h]; rfl
    ·rw [show p xs[k] ys[k] = true by simpa using h, Bool.true_and] at hr
     rw [zas (by omega)]
     exact ⟨k + 1, ⟨by omega, hr⟩, by omega, zac (by simp -implicitDefEqProofs only [go_sem])⟩
   ·simp -implicitDefEqProofs only [go_sem, List.length_map, hlt]
    rw [hr, List.drop_of_length_le (by omega), List.drop_of_length_le (by omega)]; rfl
set_option maxRecDepth 10000 in
set_option maxHeartbeats 400000 in
theorem zet (xs ys : List Fm) (p : Fm -> Fm -> Bool) (g : FuncId) (caps : List T) (H : ∀ x ∈ xs, ∀ y ∈ ys, FC Tryz.prog g (fmD x :: fmD y :: caps.map .one) [bD (p x y)]) : FC Tryz.prog 267 [.one (fmS xs), .one (fmS ys), .one (.fn g caps)] [bD (eqL p xs ys)] := by
 refine zc7 (fun hw => ?_) Tryz.call267
 have hl : xs.length <= 9223372036854775807 := by simpa [zfj, wfT] using hw.1.1
 have hl2 : ys.length <= 9223372036854775807 := by simpa [zfj, wfT] using hw.2.1.1
 refine zag Tryz.call267 Tryz.func267 rfl (by kernel_rfl) (zau (by kernel_rfl)) ?_
 simp -implicitDefEqProofs only [go_sem, Tryz.results267]
 refine ⟨fun h => ?_, fun h => ?_⟩
 ·rw [ztw (by rintro e; simp [e] at h)]
 ·have hlen : xs.length = ys.length := by simp at h; omega
  refine zad (fun k : Nat => hd [(1, vT (fmS ys)), (2, .one (.t (.fn g caps))), (15, vT (fmS xs)), (16, vI xs.length), (17, vI k)] [] []) (fun k => k <= xs.length /\ eqL p xs ys = eqL p (xs.drop k) (ys.drop k)) (fun k => xs.length - k) 0 (zac ?_) ?_ ?_
  ·simp -implicitDefEqProofs only [go_sem]
  ·simp
  ·intro k ⟨hk, hr⟩
   by_cases hlt : k < xs.length
   ·have hk2 : k < ys.length := by omega
    simp -implicitDefEqProofs only [go_sem, List.length_map, zaf, hlt, hk2, zaa, zab]
    refine callF (H xs[k] (List.getElem_mem hlt) ys[k] (List.getElem_mem hk2)) (by simp -implicitDefEqProofs only [go_sem, zaa, zab]) ?_
    simp -implicitDefEqProofs only [go_sem, zaa, zab]
    rw [List.drop_eq_getElem_cons hlt, List.drop_eq_getElem_cons hk2, eqL] at hr
    refine ⟨fun h => ?_, fun h => ?_⟩
    ·rw [hr, show p xs[k] ys[k] = false by simpa using h]; rfl
    ·rw [show p xs[k] ys[k] = true by simpa using h, Bool.true_and] at hr
     rw [zas (by omega)]
     exact ⟨k + 1, ⟨by omega, hr⟩, by omega, zac (by simp -implicitDefEqProofs only [go_sem])⟩
   ·simp -implicitDefEqProofs only [go_sem, List.length_map, hlt]
    rw [hr, List.drop_of_length_le (by omega), List.drop_of_length_le (by omega)]; rfl
end Go.Proofs.YtemnhgmgeijkcaaGreat
namespace Go.Proofs.YtemnhgmgeijkcaaGreat
set_option linter.unusedSimpArgs false
set_option linter.unusedVariables false
set_option linter.unusedSectionVars false
set_option maxRecDepth 4000
open Go.RowKit
theorem zlf (a b : Tm) : same a b = (same a.name b.name && same a.args b.args) := by
 cases a; cases b
 rw [Bool.eq_iff_iff]
 simp only [Bool.and_eq_true, zbs, Tm.name, Tm.args, Tm.mk.injEq]
theorem zf2 (a b : Fm) : same a b = (same a.op b.op && same a.atom b.atom && same a.var b.var && same a.parts b.parts) := by
 cases a; cases b
 rw [Bool.eq_iff_iff]
 simp only [Bool.and_eq_true, zbs, Fm.op, Fm.atom, Fm.var, Fm.parts, Fm.mk.injEq, and_assoc]
theorem zcl {α : Type} [BEq α] [LawfulBEq α] (a b : α) : (a == b) = same a b := by
 rw [Bool.eq_iff_iff, beq_iff_eq, zbs]
theorem zx5 (a b : Tm) (H : FC Tryz.prog 230 [.one (tmS a.args), .one (tmS b.args), .one (.fn 165 [])] [bD (same a.args b.args)]) :
  FC Tryz.prog 165 [tmD a, tmD b] [bD (same a b)] := by
 simp only [tmD, zab]
 refine zag Tryz.call165 Tryz.func165 rfl (by kernel_rfl) (zau (by kernel_rfl)) ?_
 simp -implicitDefEqProofs only [go_sem, Tryz.results165]
 refine ⟨fun h => ?_, fun h => ?_⟩
 ·refine callF (H) (by simp -implicitDefEqProofs only [go_sem]) ?_
  simp -implicitDefEqProofs only [go_sem]
  rw [zlf, <- zcl a.name, h, Bool.true_and]
 ·rw [zlf, <- zcl a.name, h]; rfl
theorem zp1 : ∀ a b : Tm, FC Tryz.prog 165 [tmD a, tmD b] [bD (same a b)] :=
 zbx fun n xs ih b => zx5 (.mk n xs) b (by
  rw [show same (Tm.mk n xs).args b.args = eqL same (Tm.mk n xs).args b.args from (zj0 fun _ _ _ => rfl).symm]
  exact zku xs b.args same _ [] fun x hx y _ => ih x hx y)
theorem zma (a b : Fm) (H : FC Tryz.prog 267 [.one (fmS a.parts), .one (fmS b.parts), .one (.fn 205 [])] [bD (same a.parts b.parts)]) :
  FC Tryz.prog 205 [fmD a, fmD b] [bD (same a b)] := by
 simp only [fmD, zaa]
 refine zag Tryz.call205 Tryz.func205 rfl (by kernel_rfl) (zau (by kernel_rfl)) ?_
 simp -implicitDefEqProofs only [go_sem, Tryz.results205]
 refine ⟨fun h1 => ?_, fun h1 => by rw [zf2, <- zcl a.op, h1]; rfl⟩
 refine callF (zp1 a.atom b.atom) (by simp -implicitDefEqProofs only [go_sem, zab]) ?_
 simp -implicitDefEqProofs only [go_sem, zab]
 refine ⟨fun h2 => ?_, fun h2 => by rw [zf2, <- zcl a.op, h1, h2]; rfl⟩
 refine ⟨fun h3 => ?_, fun h3 => by rw [zf2, <- zcl a.op, h1, h2, <- zcl a.var, h3]; rfl⟩
 refine callF (H) (by simp -implicitDefEqProofs only [go_sem]) ?_
 simp -implicitDefEqProofs only [go_sem]
 rw [zf2, <- zcl a.op, h1, h2, <- zcl a.var, h3]; rfl
theorem za9 : ∀ a b : Fm, FC Tryz.prog 205 [fmD a, fmD b] [bD (same a b)] :=
 zcb fun o t v ps ih b => zma (.mk o t v ps) b (by
  rw [show same (Fm.mk o t v ps).parts b.parts = eqL same (Fm.mk o t v ps).parts b.parts from (zj0 fun _ _ _ => rfl).symm]
  exact zet ps b.parts same _ [] fun x hx y _ => ih x hx y)
theorem qev (a b : Tm) (H : ∀ x ∈ a.args, ∀ y, FC Tryz.prog 154 [tmD x, tmD y] [bD (same x y)]) : FC Tryz.prog 154 [tmD a, tmD b] [bD (same a b)] := by
 refine zc7 (fun hw => ?_) Tryz.call154
 simp only [tmD, zab] at hw ⊢
 have hl : a.args.length <= 9223372036854775807 := by simp [zfj, wfT, zo9] at hw; exact hw.1.2.1
 refine zag Tryz.call154 Tryz.func154 rfl (by kernel_rfl) (zau (by kernel_rfl)) ?_
 simp -implicitDefEqProofs only [go_sem, Tryz.results154]
 refine ⟨fun h1 => ?_, fun h1 => by rw [zlf, <- zcl a.name, show (a.name == b.name) = false by simpa using h1]; rfl⟩
 have h1' : same a.name b.name = true := by rw [<- zcl]; simpa using h1
 refine ⟨fun h2 => ?_, fun h2 => ?_⟩
 ·rw [zlf, h1', Bool.true_and, zbv.2 (by rintro e; simp [e] at h2)]
 have hlen : a.args.length = b.args.length := by simp at h2; omega
 have hs : same a b = same a.args b.args := by rw [zlf, h1', Bool.true_and]
 refine zad (fun k : Nat => hd [(2, .one (.bx 2 0)), (3, .one (.bx 3 0)), (4, vB false), (5, vI k)] [(2, [.t (.str a.name), .t (tmS a.args)]), (3, [.t (.str b.name), .t (tmS b.args)])] []) (fun k => k <= a.args.length /\ same a.args b.args = same (a.args.drop k) (b.args.drop k)) (fun k => a.args.length - k) 0 (zac ?_) ?_ ?_
 ·simp -implicitDefEqProofs only [go_sem]
 ·simp
 ·intro k ⟨hk, hr⟩
  by_cases hlt : k < a.args.length
  ·have hk2 : k < b.args.length := by omega
   simp -implicitDefEqProofs only [go_sem, hlt]
   refine drawn (by kernel_rfl) ?_
   simp -implicitDefEqProofs only [go_sem, zaf, hlt, hk2, zab]
   refine zan (H a.args[k] (List.getElem_mem hlt) b.args[k]) (by simp -implicitDefEqProofs only [go_sem, zab]) ?_
   simp -implicitDefEqProofs only [go_sem, zab]
   rw [List.drop_eq_getElem_cons hlt, List.drop_eq_getElem_cons hk2, zbz] at hr
   refine ⟨by kernel_rfl, fun h => ?_, fun h => ?_⟩
   ·rw [hs, hr, show same a.args[k] b.args[k] = false by simpa using h]; rfl
   ·rw [show same a.args[k] b.args[k] = true by simpa using h, Bool.true_and] at hr
    rw [zas (by omega)]
    exact ⟨k + 1, ⟨by omega, hr⟩, by omega, zac (by simp -implicitDefEqProofs only [go_sem])⟩
  ·simp -implicitDefEqProofs only [go_sem, hlt]
   rw [hs, hr, List.drop_of_length_le (by omega), List.drop_of_length_le (by omega), zdt]
theorem zig : ∀ a b : Tm, FC Tryz.prog 154 [tmD a, tmD b] [bD (same a b)] := zbx fun n xs ih b => qev (.mk n xs) b ih
set_option maxHeartbeats 1000000 in
theorem qc7 (a b : Fm) (H : ∀ x ∈ a.parts, ∀ y, FC Tryz.prog 196 [fmD x, fmD y] [bD (same x y)]) : FC Tryz.prog 196 [fmD a, fmD b] [bD (same a b)] := by
 refine zc7 (fun hw => ?_) Tryz.call196
 simp only [fmD, zaa] at hw ⊢
 have hl : a.parts.length <= 9223372036854775807 := by simp [zfj, wfT, zo9] at hw; exact hw.1.2.2.2.2.1
 refine zag Tryz.call196 Tryz.func196 rfl (by kernel_rfl) (zau (by kernel_rfl)) ?_
 simp -implicitDefEqProofs only [go_sem, Tryz.results196]
 refine ⟨fun h1 => ?_, fun h1 => by rw [zf2, <- zcl a.op, show (a.op == b.op) = false by simpa using h1]; rfl⟩
 have h1' : same a.op b.op = true := by rw [<- zcl]; simpa using h1
 refine ⟨fun h2 => ?_, fun h2 => by rw [zf2, h1', <- zcl a.var, show (a.var == b.var) = false by simpa using h2]; simp⟩
 have h2' : same a.var b.var = true := by rw [<- zcl]; simpa using h2
 refine callF (zig a.atom b.atom) (by simp -implicitDefEqProofs only [go_sem, zab]) ?_
 simp -implicitDefEqProofs only [go_sem, zab]
 refine ⟨fun h3 => ?_, fun h3 => by rw [zf2, h1', show same a.atom b.atom = false by simpa using h3]; rfl⟩
 have h3' : same a.atom b.atom = true := by simpa using h3
 have hs : same a b = same a.parts b.parts := by rw [zf2, h1', h2', h3']; rfl
 refine ⟨fun h4 => ?_, fun h4 => ?_⟩
 ·rw [hs, zbv.2 (by rintro e; simp [e] at h4)]
 have hlen : a.parts.length = b.parts.length := by simp at h4; omega
 refine zad (fun k : Nat => hd [(2, .one (.bx 2 0)), (3, .one (.bx 3 0)), (4, vB false), (5, vI k)] [(2, [.t (.int .i64 a.op), .t (.str a.atom.name), .t (tmS a.atom.args), .t (.str a.var), .t (fmS a.parts)]), (3, [.t (.int .i64 b.op), .t (.str b.atom.name), .t (tmS b.atom.args), .t (.str b.var), .t (fmS b.parts)])] []) (fun k => k <= a.parts.length /\ same a.parts b.parts = same (a.parts.drop k) (b.parts.drop k)) (fun k => a.parts.length - k) 0 (zac ?_) ?_ ?_
 ·simp -implicitDefEqProofs only [go_sem]
 ·simp
 ·intro k ⟨hk, hr⟩
  by_cases hlt : k < a.parts.length
  ·have hk2 : k < b.parts.length := by omega
   simp -implicitDefEqProofs only [go_sem, hlt]
   refine drawn (by kernel_rfl) ?_
   simp -implicitDefEqProofs only [go_sem, zaf, hlt, hk2, zaa]
   refine zan (H a.parts[k] (List.getElem_mem hlt) b.parts[k]) (by simp -implicitDefEqProofs only [go_sem, zaa]) ?_
   simp -implicitDefEqProofs only [go_sem, zaa]
   rw [List.drop_eq_getElem_cons hlt, List.drop_eq_getElem_cons hk2, zbz] at hr
   refine ⟨by kernel_rfl, fun h => ?_, fun h => ?_⟩
   ·rw [hs, hr, show same a.parts[k] b.parts[k] = false by simpa using h]; rfl
   ·rw [show same a.parts[k] b.parts[k] = true by simpa using h, Bool.true_and] at hr
    rw [zas (by omega)]
    exact ⟨k + 1, ⟨by omega, hr⟩, by omega, zac (by simp -implicitDefEqProofs only [go_sem])⟩
  ·simp -implicitDefEqProofs only [go_sem, hlt]
   rw [hs, hr, List.drop_of_length_le (by omega), List.drop_of_length_le (by omega), zdt]
theorem zh8 : ∀ a b : Fm, FC Tryz.prog 196 [fmD a, fmD b] [bD (same a b)] := zcb fun o t v ps ih b => qc7 (.mk o t v ps) b ih
end Go.Proofs.YtemnhgmgeijkcaaGreat
namespace Go.Proofs.YtemnhgmgeijkcaaGreat
set_option linter.unusedSimpArgs false
set_option linter.unusedVariables false
set_option linter.unusedSectionVars false
set_option maxRecDepth 4000
open Go.RowKit
def mkF (op : Int) (ps : List Fm) : Fm := .mk op (.mk [] []) [] ps
theorem zin (op : Int) (ps : List Fm) : fmC (mkF op ps) = [.int .i64 op, .str [], .sl 2 [], .str [], .sl 5 (ps.map fmC)] := zaa _
end Go.Proofs.YtemnhgmgeijkcaaGreat
namespace Go.Proofs.YtemnhgmgeijkcaaGreat
set_option linter.unusedSimpArgs false
set_option linter.unusedVariables false
set_option linter.unusedSectionVars false
set_option maxRecDepth 4000
open Go.RowKit
set_option maxHeartbeats 4000000 in
theorem zx2 (f : Fm) (hs : f.wt <= 1099511627776) (H : ∀ x ∈ f.parts, FC Tryz.prog 182 [fmD x] [bD x.forms]) : FC Tryz.prog 182 [fmD f] [bD f.forms] := by
 have H1 : ∀ x ∈ f.parts, FC Tryz.prog 245 [fmD x] [bD (!x.forms)] := fun x hx => by
  simp only [fmD, zaa]
  refine zag Tryz.call245 Tryz.func245 rfl (by kernel_rfl) (zau (by kernel_rfl)) ?_
  simp -implicitDefEqProofs only [go_sem, Tryz.results245]
  refine callF (H x hx) (by simp -implicitDefEqProofs only [go_sem, zaa]) ?_
  simp -implicitDefEqProofs only [go_sem, zaa]
 have hN := f.forms_eq
 obtain ⟨o, a, v, ps⟩ := f
 have ha : a.wt <= 1099511627776 := Nat.le_trans (ziz (.mk o a v ps)) hs
 have e0 : ((ps.length : Int) != 0) = !decide (ps.length = 0) := zs3 _ 0
 have e1 : ((ps.length : Int) != 1) = !decide (ps.length = 1) := zs3 _ 1
 have e2 : ((ps.length : Int) != 2) = !decide (ps.length = 2) := zs3 _ 2
 simp only [Fm.parts] at H1 hN
 rcases zwj o with rfl | rfl | rfl | rfl | rfl | rfl | rfl | rfl | rfl | ⟨n1, n2, n3, n4, n5, n6, n7, n8, n9⟩
 ·have hH : Fm.here (.mk 1 a v ps) = (decide (ps.length = 0) && a.none && (v == [])) := rfl
  rw [hH] at hN
  have hq : isQ 1 = false := rfl
  have hb : zop 1 = false := rfl
  simp only [fmD, zaa, Fm.op, Fm.atom, Fm.var, Fm.parts]
  refine zag Tryz.call182 Tryz.func182 rfl (by kernel_rfl) (zau (by kernel_rfl)) ?_
  simp -implicitDefEqProofs only [go_sem, Tryz.results182]
  simp only [e0]
  refine ⟨fun h => ?_, fun h => ?_⟩
  ·have h' : decide (ps.length = 0) = true := by simpa using h
   refine callF (zar 1) (by simp -implicitDefEqProofs only [go_sem, hq]) ?_
   simp -implicitDefEqProofs only [go_sem, hq]
   refine callF (zar 1) (by simp -implicitDefEqProofs only [go_sem, hq]) ?_
   simp -implicitDefEqProofs only [go_sem, hq]
   refine ⟨fun h1 => ?_, fun h1 => ?_⟩
   ·rw [hN, show (v == []) = false by simpa using h1, Bool.and_false, Bool.false_and]
   ·have h1' : (v == []) = true := by simpa using h1
    refine callF (za4 a) (by simp -implicitDefEqProofs only [go_sem, zab]) ?_
    simp -implicitDefEqProofs only [go_sem, zab]
    refine ⟨fun h2 => ?_, fun h2 => ?_⟩
    ·rw [hN, show a.none = false by simpa using h2, Bool.and_false, Bool.false_and, Bool.false_and]
    ·have h2' : a.none = true := by simpa using h2
     refine callF (zaz ps (fun x => !x.forms) _ [] H1) (by simp -implicitDefEqProofs only [go_sem]) ?_
     simp -implicitDefEqProofs only [go_sem]
     rw [zd4, hN, h', h1', h2']; rfl
  ·rw [hN, show decide (ps.length = 0) = false by simpa using h]; rfl
 ·have hH : Fm.here (.mk 2 a v ps) = (decide (ps.length = 0) && a.none && (v == [])) := rfl
  rw [hH] at hN
  have hq : isQ 2 = false := rfl
  have hb : zop 2 = false := rfl
  simp only [fmD, zaa, Fm.op, Fm.atom, Fm.var, Fm.parts]
  refine zag Tryz.call182 Tryz.func182 rfl (by kernel_rfl) (zau (by kernel_rfl)) ?_
  simp -implicitDefEqProofs only [go_sem, Tryz.results182]
  simp only [e0]
  refine ⟨fun h => ?_, fun h => ?_⟩
  ·have h' : decide (ps.length = 0) = true := by simpa using h
   refine callF (zar 2) (by simp -implicitDefEqProofs only [go_sem, hq]) ?_
   simp -implicitDefEqProofs only [go_sem, hq]
   refine callF (zar 2) (by simp -implicitDefEqProofs only [go_sem, hq]) ?_
   simp -implicitDefEqProofs only [go_sem, hq]
   refine ⟨fun h1 => ?_, fun h1 => ?_⟩
   ·rw [hN, show (v == []) = false by simpa using h1, Bool.and_false, Bool.false_and]
   ·have h1' : (v == []) = true := by simpa using h1
    refine callF (za4 a) (by simp -implicitDefEqProofs only [go_sem, zab]) ?_
    simp -implicitDefEqProofs only [go_sem, zab]
    refine ⟨fun h2 => ?_, fun h2 => ?_⟩
    ·rw [hN, show a.none = false by simpa using h2, Bool.and_false, Bool.false_and, Bool.false_and]
    ·have h2' : a.none = true := by simpa using h2
     refine callF (zaz ps (fun x => !x.forms) _ [] H1) (by simp -implicitDefEqProofs only [go_sem]) ?_
     simp -implicitDefEqProofs only [go_sem]
     rw [zd4, hN, h', h1', h2']; rfl
  ·rw [hN, show decide (ps.length = 0) = false by simpa using h]; rfl
 ·have hH : Fm.here (.mk 3 a v ps) = (decide (ps.length = 0) && a.atomOk && (v == [])) := rfl
  rw [hH] at hN
  have hq : isQ 3 = false := rfl
  have hb : zop 3 = false := rfl
  simp only [fmD, zaa, Fm.op, Fm.atom, Fm.var, Fm.parts]
  refine zag Tryz.call182 Tryz.func182 rfl (by kernel_rfl) (zau (by kernel_rfl)) ?_
  simp -implicitDefEqProofs only [go_sem, Tryz.results182]
  simp only [e0]
  refine ⟨fun h => ?_, fun h => ?_⟩
  ·have h' : decide (ps.length = 0) = true := by simpa using h
   refine callF (zar 3) (by simp -implicitDefEqProofs only [go_sem, hq]) ?_
   simp -implicitDefEqProofs only [go_sem, hq]
   refine callF (zar 3) (by simp -implicitDefEqProofs only [go_sem, hq]) ?_
   simp -implicitDefEqProofs only [go_sem, hq]
   refine ⟨fun h1 => ?_, fun h1 => ?_⟩
   ·rw [hN, show (v == []) = false by simpa using h1, Bool.and_false, Bool.false_and]
   ·have h1' : (v == []) = true := by simpa using h1
    refine callF (zoy a ha) (by simp -implicitDefEqProofs only [go_sem, zab]) ?_
    simp -implicitDefEqProofs only [go_sem, zab]
    refine And.symm ⟨fun h2 => ?_, fun h2 => ?_⟩
    ·rw [hN, show a.atomOk = false by simpa using h2, Bool.and_false, Bool.false_and, Bool.false_and]
    ·have h2' : a.atomOk = true := by simpa using h2
     refine callF (zaz ps (fun x => !x.forms) _ [] H1) (by simp -implicitDefEqProofs only [go_sem]) ?_
     simp -implicitDefEqProofs only [go_sem]
     rw [zd4, hN, h', h1', h2']; rfl
  ·rw [hN, show decide (ps.length = 0) = false by simpa using h]; rfl
 ·have hH : Fm.here (.mk 4 a v ps) = (decide (ps.length = 1) && a.none && (v == [])) := rfl
  rw [hH] at hN
  have hq : isQ 4 = false := rfl
  have hb : zop 4 = false := rfl
  simp only [fmD, zaa, Fm.op, Fm.atom, Fm.var, Fm.parts]
  refine zag Tryz.call182 Tryz.func182 rfl (by kernel_rfl) (zau (by kernel_rfl)) ?_
  simp -implicitDefEqProofs only [go_sem, Tryz.results182]
  simp only [e1]
  refine ⟨fun h => ?_, fun h => ?_⟩
  ·have h' : decide (ps.length = 1) = true := by simpa using h
   refine callF (zar 4) (by simp -implicitDefEqProofs only [go_sem, hq]) ?_
   simp -implicitDefEqProofs only [go_sem, hq]
   refine callF (zar 4) (by simp -implicitDefEqProofs only [go_sem, hq]) ?_
   simp -implicitDefEqProofs only [go_sem, hq]
   refine ⟨fun h1 => ?_, fun h1 => ?_⟩
   ·rw [hN, show (v == []) = false by simpa using h1, Bool.and_false, Bool.false_and]
   ·have h1' : (v == []) = true := by simpa using h1
    refine callF (za4 a) (by simp -implicitDefEqProofs only [go_sem, zab]) ?_
    simp -implicitDefEqProofs only [go_sem, zab]
    refine ⟨fun h2 => ?_, fun h2 => ?_⟩
    ·rw [hN, show a.none = false by simpa using h2, Bool.and_false, Bool.false_and, Bool.false_and]
    ·have h2' : a.none = true := by simpa using h2
     refine callF (zaz ps (fun x => !x.forms) _ [] H1) (by simp -implicitDefEqProofs only [go_sem]) ?_
     simp -implicitDefEqProofs only [go_sem]
     rw [zd4, hN, h', h1', h2']; rfl
  ·rw [hN, show decide (ps.length = 1) = false by simpa using h]; rfl
 ·have hH : Fm.here (.mk 5 a v ps) = (decide (ps.length = 2) && a.none && (v == [])) := rfl
  rw [hH] at hN
  have hq : isQ 5 = false := rfl
  have hb : zop 5 = true := rfl
  simp only [fmD, zaa, Fm.op, Fm.atom, Fm.var, Fm.parts]
  refine zag Tryz.call182 Tryz.func182 rfl (by kernel_rfl) (zau (by kernel_rfl)) ?_
  simp -implicitDefEqProofs only [go_sem, Tryz.results182]
  refine callF (zar 5) (by simp -implicitDefEqProofs only [go_sem, hq]) ?_
  simp -implicitDefEqProofs only [go_sem, hq]
  refine callF (zgl 5) (by simp -implicitDefEqProofs only [go_sem, hb]) ?_
  simp -implicitDefEqProofs only [go_sem, hb]
  simp only [e2]
  refine ⟨fun h => ?_, fun h => ?_⟩
  ·have h' : decide (ps.length = 2) = true := by simpa using h
   refine callF (zar 5) (by simp -implicitDefEqProofs only [go_sem, hq]) ?_
   simp -implicitDefEqProofs only [go_sem, hq]
   refine callF (zar 5) (by simp -implicitDefEqProofs only [go_sem, hq]) ?_
   simp -implicitDefEqProofs only [go_sem, hq]
   refine ⟨fun h1 => ?_, fun h1 => ?_⟩
   ·rw [hN, show (v == []) = false by simpa using h1, Bool.and_false, Bool.false_and]
   ·have h1' : (v == []) = true := by simpa using h1
    refine callF (za4 a) (by simp -implicitDefEqProofs only [go_sem, zab]) ?_
    simp -implicitDefEqProofs only [go_sem, zab]
    refine ⟨fun h2 => ?_, fun h2 => ?_⟩
    ·rw [hN, show a.none = false by simpa using h2, Bool.and_false, Bool.false_and, Bool.false_and]
    ·have h2' : a.none = true := by simpa using h2
     refine callF (zaz ps (fun x => !x.forms) _ [] H1) (by simp -implicitDefEqProofs only [go_sem]) ?_
     simp -implicitDefEqProofs only [go_sem]
     rw [zd4, hN, h', h1', h2']; rfl
  ·rw [hN, show decide (ps.length = 2) = false by simpa using h]; rfl
 ·have hH : Fm.here (.mk 6 a v ps) = (decide (ps.length = 2) && a.none && (v == [])) := rfl
  rw [hH] at hN
  have hq : isQ 6 = false := rfl
  have hb : zop 6 = true := rfl
  simp only [fmD, zaa, Fm.op, Fm.atom, Fm.var, Fm.parts]
  refine zag Tryz.call182 Tryz.func182 rfl (by kernel_rfl) (zau (by kernel_rfl)) ?_
  simp -implicitDefEqProofs only [go_sem, Tryz.results182]
  refine callF (zar 6) (by simp -implicitDefEqProofs only [go_sem, hq]) ?_
  simp -implicitDefEqProofs only [go_sem, hq]
  refine callF (zgl 6) (by simp -implicitDefEqProofs only [go_sem, hb]) ?_
  simp -implicitDefEqProofs only [go_sem, hb]
  simp only [e2]
  refine ⟨fun h => ?_, fun h => ?_⟩
  ·have h' : decide (ps.length = 2) = true := by simpa using h
   refine callF (zar 6) (by simp -implicitDefEqProofs only [go_sem, hq]) ?_
   simp -implicitDefEqProofs only [go_sem, hq]
   refine callF (zar 6) (by simp -implicitDefEqProofs only [go_sem, hq]) ?_
   simp -implicitDefEqProofs only [go_sem, hq]
   refine ⟨fun h1 => ?_, fun h1 => ?_⟩
   ·rw [hN, show (v == []) = false by simpa using h1, Bool.and_false, Bool.false_and]
   ·have h1' : (v == []) = true := by simpa using h1
    refine callF (za4 a) (by simp -implicitDefEqProofs only [go_sem, zab]) ?_
    simp -implicitDefEqProofs only [go_sem, zab]
    refine ⟨fun h2 => ?_, fun h2 => ?_⟩
    ·rw [hN, show a.none = false by simpa using h2, Bool.and_false, Bool.false_and, Bool.false_and]
    ·have h2' : a.none = true := by simpa using h2
     refine callF (zaz ps (fun x => !x.forms) _ [] H1) (by simp -implicitDefEqProofs only [go_sem]) ?_
     simp -implicitDefEqProofs only [go_sem]
     rw [zd4, hN, h', h1', h2']; rfl
  ·rw [hN, show decide (ps.length = 2) = false by simpa using h]; rfl
 ·have hH : Fm.here (.mk 7 a v ps) = (decide (ps.length = 2) && a.none && (v == [])) := rfl
  rw [hH] at hN
  have hq : isQ 7 = false := rfl
  have hb : zop 7 = true := rfl
  simp only [fmD, zaa, Fm.op, Fm.atom, Fm.var, Fm.parts]
  refine zag Tryz.call182 Tryz.func182 rfl (by kernel_rfl) (zau (by kernel_rfl)) ?_
  simp -implicitDefEqProofs only [go_sem, Tryz.results182]
  refine callF (zar 7) (by simp -implicitDefEqProofs only [go_sem, hq]) ?_
  simp -implicitDefEqProofs only [go_sem, hq]
  refine callF (zgl 7) (by simp -implicitDefEqProofs only [go_sem, hb]) ?_
  simp -implicitDefEqProofs only [go_sem, hb]
  simp only [e2]
  refine ⟨fun h => ?_, fun h => ?_⟩
  ·have h' : decide (ps.length = 2) = true := by simpa using h
   refine callF (zar 7) (by simp -implicitDefEqProofs only [go_sem, hq]) ?_
   simp -implicitDefEqProofs only [go_sem, hq]
   refine callF (zar 7) (by simp -implicitDefEqProofs only [go_sem, hq]) ?_
   simp -implicitDefEqProofs only [go_sem, hq]
   refine ⟨fun h1 => ?_, fun h1 => ?_⟩
   ·rw [hN, show (v == []) = false by simpa using h1, Bool.and_false, Bool.false_and]
   ·have h1' : (v == []) = true := by simpa using h1
    refine callF (za4 a) (by simp -implicitDefEqProofs only [go_sem, zab]) ?_
    simp -implicitDefEqProofs only [go_sem, zab]
    refine ⟨fun h2 => ?_, fun h2 => ?_⟩
    ·rw [hN, show a.none = false by simpa using h2, Bool.and_false, Bool.false_and, Bool.false_and]
    ·have h2' : a.none = true := by simpa using h2
     refine callF (zaz ps (fun x => !x.forms) _ [] H1) (by simp -implicitDefEqProofs only [go_sem]) ?_
     simp -implicitDefEqProofs only [go_sem]
     rw [zd4, hN, h', h1', h2']; rfl
  ·rw [hN, show decide (ps.length = 2) = false by simpa using h]; rfl
 ·have hH : Fm.here (.mk 8 a v ps) = (decide (ps.length = 1) && a.none && zbc v) := rfl
  rw [hH] at hN
  have hq : isQ 8 = true := rfl
  have hb : zop 8 = false := rfl
  simp only [fmD, zaa, Fm.op, Fm.atom, Fm.var, Fm.parts]
  refine zag Tryz.call182 Tryz.func182 rfl (by kernel_rfl) (zau (by kernel_rfl)) ?_
  simp -implicitDefEqProofs only [go_sem, Tryz.results182]
  refine callF (zar 8) (by simp -implicitDefEqProofs only [go_sem, hq]) ?_
  simp -implicitDefEqProofs only [go_sem, hq]
  simp only [e1]
  refine ⟨fun h => ?_, fun h => ?_⟩
  ·have h' : decide (ps.length = 1) = true := by simpa using h
   refine callF (zar 8) (by simp -implicitDefEqProofs only [go_sem, hq]) ?_
   simp -implicitDefEqProofs only [go_sem, hq]
   refine callF (zdz v) (by simp -implicitDefEqProofs only [go_sem]) ?_
   simp -implicitDefEqProofs only [go_sem]
   refine ⟨fun h1 => ?_, fun h1 => ?_⟩
   ·have h1' : zbc v = true := by simpa using h1
    refine callF (zar 8) (by simp -implicitDefEqProofs only [go_sem, hq]) ?_
    simp -implicitDefEqProofs only [go_sem, hq]
    refine callF (za4 a) (by simp -implicitDefEqProofs only [go_sem, zab]) ?_
    simp -implicitDefEqProofs only [go_sem, zab]
    refine ⟨fun h2 => ?_, fun h2 => ?_⟩
    ·rw [hN, show a.none = false by simpa using h2, Bool.and_false, Bool.false_and, Bool.false_and]
    ·have h2' : a.none = true := by simpa using h2
     refine callF (zaz ps (fun x => !x.forms) _ [] H1) (by simp -implicitDefEqProofs only [go_sem]) ?_
     simp -implicitDefEqProofs only [go_sem]
     rw [zd4, hN, h', h1', h2']; rfl
   ·rw [hN, show zbc v = false by simpa using h1, Bool.and_false, Bool.false_and]
  ·rw [hN, show decide (ps.length = 1) = false by simpa using h]; rfl
 ·have hH : Fm.here (.mk 9 a v ps) = (decide (ps.length = 1) && a.none && zbc v) := rfl
  rw [hH] at hN
  have hq : isQ 9 = true := rfl
  have hb : zop 9 = false := rfl
  simp only [fmD, zaa, Fm.op, Fm.atom, Fm.var, Fm.parts]
  refine zag Tryz.call182 Tryz.func182 rfl (by kernel_rfl) (zau (by kernel_rfl)) ?_
  simp -implicitDefEqProofs only [go_sem, Tryz.results182]
  refine callF (zar 9) (by simp -implicitDefEqProofs only [go_sem, hq]) ?_
  simp -implicitDefEqProofs only [go_sem, hq]
  simp only [e1]
  refine ⟨fun h => ?_, fun h => ?_⟩
  ·have h' : decide (ps.length = 1) = true := by simpa using h
   refine callF (zar 9) (by simp -implicitDefEqProofs only [go_sem, hq]) ?_
   simp -implicitDefEqProofs only [go_sem, hq]
   refine callF (zdz v) (by simp -implicitDefEqProofs only [go_sem]) ?_
   simp -implicitDefEqProofs only [go_sem]
   refine ⟨fun h1 => ?_, fun h1 => ?_⟩
   ·have h1' : zbc v = true := by simpa using h1
    refine callF (zar 9) (by simp -implicitDefEqProofs only [go_sem, hq]) ?_
    simp -implicitDefEqProofs only [go_sem, hq]
    refine callF (za4 a) (by simp -implicitDefEqProofs only [go_sem, zab]) ?_
    simp -implicitDefEqProofs only [go_sem, zab]
    refine ⟨fun h2 => ?_, fun h2 => ?_⟩
    ·rw [hN, show a.none = false by simpa using h2, Bool.and_false, Bool.false_and, Bool.false_and]
    ·have h2' : a.none = true := by simpa using h2
     refine callF (zaz ps (fun x => !x.forms) _ [] H1) (by simp -implicitDefEqProofs only [go_sem]) ?_
     simp -implicitDefEqProofs only [go_sem]
     rw [zd4, hN, h', h1', h2']; rfl
   ·rw [hN, show zbc v = false by simpa using h1, Bool.and_false, Bool.false_and]
  ·rw [hN, show decide (ps.length = 1) = false by simpa using h]; rfl
 ·have hH : Fm.here (.mk o a v ps) = false := by simp [Fm.here, zop, isQ, Fm.op, *]
  rw [hH] at hN
  have f1 : (o == 1) = false := by simpa using n1
  have f2 : (o == 2) = false := by simpa using n2
  have f3 : (o == 3) = false := by simpa using n3
  have f4 : (o == 4) = false := by simpa using n4
  have hq : isQ o = false := by simp [isQ, n8, n9]
  have hb : zop o = false := by simp [zop, n5, n6, n7]
  simp only [fmD, zaa, Fm.op, Fm.atom, Fm.var, Fm.parts]
  refine zag Tryz.call182 Tryz.func182 rfl (by kernel_rfl) (zau (by kernel_rfl)) ?_
  simp -implicitDefEqProofs only [go_sem, Tryz.results182, f1, f2, f3, f4]
  refine callF (zar o) (by simp -implicitDefEqProofs only [go_sem, hq]) ?_
  simp -implicitDefEqProofs only [go_sem, hq]
  refine callF (zgl o) (by simp -implicitDefEqProofs only [go_sem, hb]) ?_
  simp -implicitDefEqProofs only [go_sem, hb]
  rw [hN]; rfl
theorem qei : ∀ a : Fm, a.wt <= 1099511627776 -> FC Tryz.prog 182 [fmD a] [bD a.forms] :=
 zcb fun o a v xs ih hs => zx2 (.mk o a v xs) hs fun x hx => ih x hx (Nat.le_trans (zct (a := .mk o a v xs) hx) hs)
theorem zcf (a : Fm) (hs : a.wt <= 1099511627776) : FC Tryz.prog 116 [fmD a] [bD a.good] := by
 simp only [fmD, zaa]
 refine zag Tryz.call116 Tryz.func116 rfl (by kernel_rfl) (zau (by kernel_rfl)) ?_
 simp -implicitDefEqProofs only [go_sem, Tryz.results116]
 refine callF (qia a hs) (by simp -implicitDefEqProofs only [go_sem, zaa]) ?_
 simp -implicitDefEqProofs only [go_sem, zaa]
 rw [qgc]
 refine ⟨fun h => ?_, fun h => ?_⟩
 ·refine callF (qei a hs) (by simp -implicitDefEqProofs only [go_sem, zaa]) ?_
  simp -implicitDefEqProofs only [go_sem, zaa]
  rw [Fm.good, h, Bool.true_and]
 ·rw [Fm.good, h, Bool.false_and]
end Go.Proofs.YtemnhgmgeijkcaaGreat
namespace Go.Proofs.YtemnhgmgeijkcaaGreat
set_option linter.unusedSimpArgs false
set_option linter.unusedVariables false
set_option linter.unusedSectionVars false
set_option maxRecDepth 4000
open Go.RowKit
def zdp (xs : List Fm) : Bool := decide (xs.length <= 10) && xs.all Fm.good
def Sq.good (s : Sq) : Bool := zdp s.left && zdp s.right
theorem ql5 {s : Sq} {x : Fm} (h : x ∈ s.left \/ x ∈ s.right) : x.wt <= s.wt := by
 have := s.wt_eq
 unfold zb5 at this
 rcases h with h | h
 ·have := zbu Fm.wt _ x h; omega
 ·have := zbu Fm.wt _ x h; omega
theorem zfs (s : Sq) (hs : s.wt <= 1099511627776) : FC Tryz.prog 89 [sqD s] [bD s.good] := by
 have H1 : ∀ x : Fm, x ∈ s.left \/ x ∈ s.right -> FC Tryz.prog 139 [fmD x] [bD (!x.good)] := fun x hx => by
  have hx := Nat.le_trans (ql5 hx) hs
  simp only [fmD, zaa]
  refine zag Tryz.call139 Tryz.func139 rfl (by kernel_rfl) (zau (by kernel_rfl)) ?_
  simp -implicitDefEqProofs only [go_sem, Tryz.results139]
  refine callF (zcf x hx) (by simp -implicitDefEqProofs only [go_sem, zaa]) ?_
  simp -implicitDefEqProofs only [go_sem, zaa]
 simp only [sqD, zah]
 refine zag Tryz.call89 Tryz.func89 rfl (by kernel_rfl) (zau (by kernel_rfl)) ?_
 simp -implicitDefEqProofs only [go_sem, Tryz.results89]
 have hG : s.good = (zdp s.left && zdp s.right) := rfl
 unfold zdp at hG
 by_cases h1 : s.left.length <= 10
 ·by_cases h2 : s.right.length <= 10
  ·rw [show decide (s.left.length <= 10) = true by simpa using h1, show decide (s.right.length <= 10) = true by simpa using h2, Bool.true_and, Bool.true_and] at hG
   refine ⟨fun _ => ⟨fun _ => ?_, fun h => by simp at h; omega⟩, fun h => by simp at h; omega⟩
   refine callF (zaz s.left (fun x => !x.good) _ [] fun x hx => H1 x (Or.inl hx)) (by simp -implicitDefEqProofs only [go_sem]) ?_
   simp -implicitDefEqProofs only [go_sem]
   rw [zd4]
   refine ⟨fun h3 => ?_, fun h3 => ?_⟩
   ·refine callF (zaz s.right (fun x => !x.good) _ [] fun x hx => H1 x (Or.inr hx)) (by simp -implicitDefEqProofs only [go_sem]) ?_
    simp -implicitDefEqProofs only [go_sem]
    rw [zd4, hG, h3, Bool.true_and]
   ·rw [hG, h3, Bool.false_and]
  ·rw [show decide (s.right.length <= 10) = false by simpa using h2, Bool.false_and, Bool.and_false] at hG
   refine ⟨fun _ => ⟨fun h => by simp at h; omega, fun _ => by rw [hG]⟩, fun h => by simp at h; omega⟩
 ·rw [show decide (s.left.length <= 10) = false by simpa using h1, Bool.false_and, Bool.false_and] at hG
  refine ⟨fun h => by simp at h; omega, fun _ => by rw [hG]⟩
theorem zpl (xs : List Fm) (hs : zb5 xs <= 1099511627776) : FC Tryz.prog 137 [.one (fmS xs)] [bD (zdp xs)] := by
 have hW : zb5 xs = xs.length + (xs.map Fm.wt).sum := rfl
 have hG : zdp xs = (decide (xs.length <= 10) && xs.all Fm.good) := rfl
 refine zag Tryz.call137 Tryz.func137 rfl (by kernel_rfl) (zau (by kernel_rfl)) ?_
 simp -implicitDefEqProofs only [go_sem, Tryz.results137]
 refine zad (fun k : Nat => hd [(0, vT (fmS xs)), (3, vI k)] [] []) (fun k => k <= xs.length /\ k <= 11 /\ xs.all Fm.good = (xs.drop k).all Fm.good) (fun k => xs.length - k) 0 (zac ?_) ?_ ?_
 ·simp -implicitDefEqProofs only [go_sem]
 ·exact ⟨by omega, by omega, rfl⟩
 ·intro k ⟨hk, hk2, hr⟩
  by_cases hlt : k < xs.length
  ·have hx : xs[k].wt <= 1099511627776 := by have := zbu Fm.wt xs xs[k] (List.getElem_mem hlt); omega
   by_cases h10 : (k : Int) <= 10
   ·have h10' : k <= 10 := by omega
    rw [List.drop_eq_getElem_cons hlt, List.all_cons] at hr
    simp -implicitDefEqProofs only [go_sem, zaf, hlt, h10, h10', zaa]
    refine callF (zt7 xs[k] hx) (by simp -implicitDefEqProofs only [go_sem, zaa]) ?_
    simp -implicitDefEqProofs only [go_sem, zaa]
    refine ⟨fun h => ?_, fun h => ⟨k + 1, ⟨hlt, by omega, ?_⟩, by omega, zac (by simp -implicitDefEqProofs only [go_sem]; rw [zas (by omega)])⟩⟩
    ·rw [hG, hr, show xs[k].good = false by simpa using h, Bool.false_and, Bool.and_false]
    ·rw [hr, show xs[k].good = true by simpa using h]; rfl
   ·have h10' : ¬ k <= 10 := by omega
    simp -implicitDefEqProofs only [go_sem, hlt, h10, h10']
    rw [hG, show decide (xs.length <= 10) = false by simp; omega, Bool.false_and]
    rw [show decide ((xs.length : Int) <= 10) = false by simp; omega]
  ·simp -implicitDefEqProofs only [go_sem, hlt]
   rw [hG, hr, List.drop_of_length_le (by omega), List.all_nil, Bool.and_true]
   congr 1
   rw [decide_eq_decide]; omega
theorem zql (s : Sq) (hs : s.wt <= 1099511627776) : FC Tryz.prog 86 [sqD s] [bD s.good] := by
 have hW := s.wt_eq
 have hG : s.good = (zdp s.left && zdp s.right) := rfl
 simp only [sqD, zah]
 refine zag Tryz.call86 Tryz.func86 rfl (by kernel_rfl) (zau (by kernel_rfl)) ?_
 simp -implicitDefEqProofs only [go_sem, Tryz.results86]
 refine callF (zpl s.left (by omega)) (by simp -implicitDefEqProofs only [go_sem]) ?_
 simp -implicitDefEqProofs only [go_sem]
 refine ⟨fun h => ?_, fun h => ?_⟩
 ·refine callF (zpl s.right (by omega)) (by simp -implicitDefEqProofs only [go_sem]) ?_
  simp -implicitDefEqProofs only [go_sem]
  rw [hG, h, Bool.true_and]
 ·rw [hG, h, Bool.false_and]
end Go.Proofs.YtemnhgmgeijkcaaGreat
namespace Go.Proofs.YtemnhgmgeijkcaaGreat
set_option linter.unusedSimpArgs false
set_option linter.unusedVariables false
set_option linter.unusedSectionVars false
set_option maxRecDepth 4000
open Go.RowKit
theorem ztq {a : Tm} (h : a.none = true) : a = .mk [] [] := by
 obtain ⟨n, xs⟩ := a
 simp only [Tm.none, Tm.name, Tm.args, Bool.and_eq_true, beq_iff_eq, decide_eq_true_eq, List.length_eq_zero_iff] at h
 rw [h.1, h.2]
theorem len1 {α : Type} {xs : List α} (h : xs.length = 1) : ∃ x, xs = [x] := by
 match xs, h with
 | [x], _ => exact ⟨x, rfl⟩
theorem len2 {α : Type} {xs : List α} (h : xs.length = 2) : ∃ x y, xs = [x, y] := by
 match xs, h with
 | [x, y], _ => exact ⟨x, y, rfl⟩
theorem qd3 (o : Int) (a : Tm) (v : Str) (ps : List Fm) : Fm.here (.mk o a v ps) =
  if (o == 1 || o == 2) = true then decide (ps.length = 0) && a.none && (v == [])
  else if (o == 3) = true then decide (ps.length = 0) && a.atomOk && (v == [])
  else if (o == 4) = true then decide (ps.length = 1) && a.none && (v == [])
  else if (o == 5 || o == 6 || o == 7) = true then decide (ps.length = 2) && a.none && (v == [])
  else if (o == 8 || o == 9) = true then decide (ps.length = 1) && a.none && zbc v
  else false := rfl
theorem zel {f : Fm} (h : f.forms = true) :
  (f.parts = [] /\ (f.op = 1 \/ f.op = 2 \/ f.op = 3)) \/ (∃ p : Fm, f = mkF 4 [p] /\ p.forms = true) \/ (∃ (o : Int) (p q : Fm), (o = 5 \/ o = 6 \/ o = 7) /\ f = mkF o [p, q] /\ p.forms = true /\ q.forms = true) ∨
   ∃ (o : Int) (v : Str) (p : Fm), (o = 8 \/ o = 9) /\ f = .mk o (.mk [] []) v [p] /\ p.forms = true := by
 rw [Fm.forms_eq, Bool.and_eq_true] at h
 obtain ⟨h1, h2⟩ := h
 obtain ⟨o, a, v, ps⟩ := f
 rw [qd3] at h1
 simp only [Fm.op, Fm.parts] at h2 ⊢
 by_cases h12 : (o == 1 || o == 2) = true
 ·rw [if_pos h12] at h1
  simp only [Bool.or_eq_true, beq_iff_eq, Bool.and_eq_true, decide_eq_true_eq, List.length_eq_zero_iff] at h12 h1
  exact Or.inl ⟨h1.1.1, by omega⟩
 rw [if_neg h12] at h1
 by_cases h3 : (o == 3) = true
 ·rw [if_pos h3] at h1
  simp only [beq_iff_eq, Bool.and_eq_true, decide_eq_true_eq, List.length_eq_zero_iff] at h3 h1
  exact Or.inl ⟨h1.1.1, by omega⟩
 rw [if_neg h3] at h1
 by_cases h4 : (o == 4) = true
 ·rw [if_pos h4] at h1
  simp only [beq_iff_eq, Bool.and_eq_true, decide_eq_true_eq] at h4 h1
  obtain ⟨⟨h5, h6⟩, h7⟩ := h1
  obtain ⟨x, rfl⟩ := len1 h5
  rw [h4, ztq h6, h7]
  exact Or.inr (Or.inl ⟨x, rfl, by simpa using h2⟩)
 rw [if_neg h4] at h1
 by_cases h5 : (o == 5 || o == 6 || o == 7) = true
 ·rw [if_pos h5] at h1
  simp only [Bool.or_eq_true, beq_iff_eq, Bool.and_eq_true, decide_eq_true_eq] at h5 h1
  obtain ⟨⟨h6, h7⟩, h8⟩ := h1
  obtain ⟨x, y, rfl⟩ := len2 h6
  rw [ztq h7, h8]
  simp only [List.all_cons, List.all_nil, Bool.and_true, Bool.and_eq_true] at h2
  exact Or.inr (Or.inr (Or.inl ⟨o, x, y, by omega, rfl, h2.1, h2.2⟩))
 rw [if_neg h5] at h1
 by_cases h6 : (o == 8 || o == 9) = true
 ·rw [if_pos h6] at h1
  simp only [Bool.or_eq_true, beq_iff_eq, Bool.and_eq_true, decide_eq_true_eq] at h6 h1
  obtain ⟨⟨h7, h8⟩, h9⟩ := h1
  obtain ⟨x, rfl⟩ := len1 h7
  rw [ztq h8]
  exact Or.inr (Or.inr (Or.inr ⟨o, v, x, by omega, rfl, by simpa using h2⟩))
 ·rw [if_neg h6] at h1; cases h1
end Go.Proofs.YtemnhgmgeijkcaaGreat
namespace Go.Proofs.YtemnhgmgeijkcaaGreat
set_option linter.unusedSimpArgs false
set_option linter.unusedVariables false
set_option linter.unusedSectionVars false
set_option maxRecDepth 4000
open Go.RowKit
theorem zxy {f : Fm} {x : Fm} (h : x ∈ f.parts) : x.nodes < f.nodes := by
 have := f.nodes_eq
 obtain ⟨i, hi, rfl⟩ := List.getElem_of_mem h
 have := zbu Fm.nodes f.parts _ (List.getElem_mem hi)
 omega
end Go.Proofs.YtemnhgmgeijkcaaGreat
namespace Go.Proofs.YtemnhgmgeijkcaaGreat
set_option linter.unusedSimpArgs false
set_option linter.unusedVariables false
set_option linter.unusedSectionVars false
set_option maxRecDepth 4000
open Go.RowKit
def zdj (n : Str) (t : Tm) : Fm -> Fm × Bool := Fm.fold fun o a v ps rs =>
 if (isQ o && (v == n || !((zba [] (vf (.mk o a v ps) [])).contains n))) = true then (.mk o a v ps, true)
 else if (isQ o && decide (0 < zhj v t)) = true then (mkF 0 [], false)
 else (.mk o (if (o == 3) = true then zfy n t a else a) v (rs.map Prod.fst), rs.all Prod.snd)
theorem zs8 (n : Str) (t : Tm) (f : Fm) : zdj n t f = if (isQ f.op && (f.var == n || !((zba [] (vf f [])).contains n))) = true then (f, true)
  else if (isQ f.op && decide (0 < zhj f.var t)) = true then (mkF 0 [], false)
  else (.mk f.op (if (f.op == 3) = true then zfy n t f.atom else f.atom) f.var (f.parts.map fun x => (zdj n t x).1), f.parts.all fun x => (zdj n t x).2) := by
 cases f with
 | mk o a v ps =>
  conv => lhs; unfold zdj; rw [Fm.fold_eq]
  simp only [List.map_map, List.all_map]
  rfl
abbrev subX (n : Str) (t : Tm) (b : Bool) : Bxs := [[(false, .str n)], [(false, .str t.name), (false, .sl 2 (t.args.map tmC))], [(true, .bool b)]]
theorem qmx (n : Str) (t : Tm) (f : Fm) (r : Fm) (ok b : Bool) (H : FC Tryz.prog 229 [fmD f, sD n, tmD t] [fmD r, bD ok]) :
  PC Tryz.prog 278 (subX n t b) [.d false (fmD f), .p 0, .p 1, .p 2] (subX n t (b && ok)) [(true, fmD r)] := by
 simp only [fmD, zaa, tmD, zab t] at H ⊢
 refine PC_of Tryz.call278 Tryz.func278 rfl (by kernel_rfl) (by simp only [List.length_cons, List.length_nil, Tryz.ntmps278]; omega) (by simp only [Tryz.ntmps278]; omega) rfl rfl (by simp [zb6, T.isPin, AF.ds, bxA]) (by simp [gFS, T.fs, T.flat, AF.ds, bxA]) rfl ?_
 simp -implicitDefEqProofs only [go_sem, Tryz.results278]
 refine callF (H) (by simp -implicitDefEqProofs only [go_sem]) ?_
 simp -implicitDefEqProofs only [go_sem]
 exact ⟨fun h => Or.inl (by rw [h]; rfl), fun h => Or.inl (by rw [h]; rfl)⟩
theorem zpv (n : Str) (t : Tm) (a : Fm) (g : FuncId) (φ : Fm -> Fm) (ψ : Fm -> Bool) (b : Bool) (H : ∀ x ∈ a.parts, ∀ b, PC Tryz.prog g (subX n t b) [.d false (fmD x), .p 0, .p 1, .p 2] (subX n t (b && ψ x)) [(true, fmD (φ x))]) (h0 : a.atom.wt <= 1048576) (hs : a.parts.length <= 1048576) :
  PC Tryz.prog 127 (subX n t b) [.d false (fmD a), .fn g [0, 1, 2]] (subX n t (b && a.parts.all ψ)) [(true, fmD (.mk a.op a.atom a.var (a.parts.map φ)))] := by
 simp only [fmD, zaa a, zdl]
 refine PC_of Tryz.call127 Tryz.func127 rfl (by kernel_rfl) (by simp only [List.length_cons, List.length_nil, Tryz.ntmps127]; omega) (by simp only [Tryz.ntmps127]; omega) rfl rfl (by simp [zb6, T.isPin, AF.ds, bxA]) (by simp [gFS, T.fs, T.flat, AF.ds, bxA]) rfl ?_
 simp -implicitDefEqProofs only [go_sem, Tryz.results127]
 refine drawn (by kernel_rfl) ?_
 simp -implicitDefEqProofs only [go_sem]
 refine zan (ziq a.atom h0) (by simp -implicitDefEqProofs only [go_sem, zab]) ?_
 simp -implicitDefEqProofs only [go_sem, zab]
 refine ⟨by kernel_rfl, ?_⟩
 refine zad (fun k : Nat => hd [(1, .one (.fn g [1000000, 1000001, 1000002])), (4, .one (.bx 4 0)), (5, .one (.bx 5 0)), (17, .one (.rn (fmS a.parts))), (18, vI a.parts.length), (19, vI k), (1000000, .one (.bx 1000000 0)), (1000001, .one (.bx 1000001 0)), (1000002, .one (.bx 1000002 0))] [(4, [.t (.int .i64 0), .t (.str []), .nl 2, .t (.str []), .nl 5]), (5, [.t (.int .i64 a.op), .t (.str a.atom.name), .ow 385 0, .t (.str a.var), .ow 3000 0]), (1000000, [.t (.str n)]), (1000001, [.t (.str t.name), .rn (.sl 2 (t.args.map tmC))]), (1000002, [.t (.bool (b && (a.parts.take k).all ψ))])]
  [(385, ⟨true, 2, a.atom.args.map tmC, 0, true⟩), (3000, ⟨true, 5, (a.parts.take k).map fun x => fmC (φ x), 0, true⟩)]) (fun k => k <= a.parts.length) (fun k => a.parts.length - k) 0 (zac ?_) ?_ ?_
 ·simp -implicitDefEqProofs only [go_sem]
 ·simp
 ·intro k hk
  by_cases hlt : k < a.parts.length
  ·have hmin : min k a.parts.length <= 4294967295 := by omega
   have HC := H a.parts[k] (List.getElem_mem hlt) (b && (a.parts.take k).all ψ)
   have hsuc : (a.parts.take (k + 1)).all ψ = ((a.parts.take k).all ψ && ψ a.parts[k]) := by rw [List.take_succ_eq_append_getElem hlt, List.all_append]; simp
   simp only [fmD, zaa a.parts[k], zaa (φ a.parts[k])] at HC
   simp -implicitDefEqProofs only [go_sem, zaf, hlt, zaa a.parts[k]]
   refine drawn (by kernel_rfl) ?_
   simp -implicitDefEqProofs only [go_sem]
   refine dCallQ [1000000, 1000001, 1000002] (HC) (by decide) (by simp -implicitDefEqProofs only [go_sem]) (by simp -implicitDefEqProofs only [go_sem]) ?_
   simp -implicitDefEqProofs only [go_sem]
   refine zbp (by simp -implicitDefEqProofs only [go_sem]) ?_
   simp -implicitDefEqProofs only [go_sem]
   refine zpc true (by simp -implicitDefEqProofs only [go_sem, ne_eq, List.length_map, List.length_take, hmin]) ?_
   simp -implicitDefEqProofs only [go_sem, ne_eq, List.length_map, List.length_take, hmin]
   refine ⟨by kernel_rfl, k + 1, hlt, by omega, zac ?_⟩
   simp -implicitDefEqProofs only [go_sem]
   rw [zas (by omega), List.take_succ_eq_append_getElem hlt, List.map_append, List.map_singleton]
   simp only [zaa]
   rw [<- List.take_succ_eq_append_getElem hlt, hsuc, Bool.and_assoc]
   exact ⟨trivial, rfl, trivial⟩
  ·have ht : a.parts.take k = a.parts := List.take_of_length_le (by omega)
   simp -implicitDefEqProofs only [go_sem, hlt, ht]
   exact Or.inl (Or.inl rfl)
theorem zl4 (n : Str) (t : Tm) (ht : t.wt <= 1048576) (f : Fm) (hf : f.forms = true) (hw : f.wt <= 1048576) (H : ∀ x ∈ f.parts, FC Tryz.prog 229 [fmD x, sD n, tmD t] [fmD (zdj n t x).1, bD (zdj n t x).2]) :
  FC Tryz.prog 229 [fmD f, sD n, tmD t] [fmD (zdj n t f).1, bD (zdj n t f).2] := by
 have hv := zs8 n t f
 have HF := qjl f hf hw
 have HO := qfp f.var t (by omega)
 have HP := zpv n t f 278 (fun x => (zdj n t x).1) (fun x => (zdj n t x).2) true (fun x hx b => qmx n t x _ _ b (H x hx)) (by have := ziz f; omega) (by have := f.wt_eq; omega)
 rw [Bool.true_and] at HP
 have HC := zih f hw
 generalize zba [] (vf f []) = V at hv HF
 simp only [fmD, zaa f, tmD, zab t, zdl] at HF HO HC HP ⊢
 refine zg1 Tryz.call229 Tryz.func229 rfl (by kernel_rfl) (zau (by kernel_rfl)) ?_
 simp -implicitDefEqProofs only [go_sem, Tryz.results229]
 cases hq : isQ f.op
 ·rw [hq, Bool.false_and, Bool.false_and, if_neg (by simp), if_neg (by simp)] at hv
  have HI := zar f.op
  rw [hq] at HI
  refine drawn (by kernel_rfl) ?_
  simp -implicitDefEqProofs only [go_sem]
  refine zan (HI) (by simp -implicitDefEqProofs only [go_sem]) ?_
  simp -implicitDefEqProofs only [go_sem]
  refine ⟨by kernel_rfl, ?_⟩
  refine callF (HI) (by simp -implicitDefEqProofs only [go_sem]) ?_
  simp -implicitDefEqProofs only [go_sem]
  have HA := qlu n t ht f.atom (by have := ziz f; omega)
  have hS : sbS [(n, t)] = .sl 3 [[.str n, .str t.name, .sl 2 (t.args.map tmC)]] := by unfold sbS; rw [List.map_singleton, zh6]
  rw [hS] at HA
  simp only [tmD, zab f.atom, zab (zfy n t f.atom)] at HA
  cases h3 : f.op == 3
  ·rw [h3, if_neg (by simp)] at hv
   rw [hv]
   simp only [fmD, zdl]
   refine callQ [4, 5, 8] (HP) (by decide) (by simp -implicitDefEqProofs only [go_sem, h3]) (by simp -implicitDefEqProofs only [go_sem, h3]) ?_
   simp -implicitDefEqProofs only [go_sem, h3]
   refine drawn (by kernel_rfl) ?_
   simp -implicitDefEqProofs only [go_sem]
   kernel_rfl
  ·rw [h3, if_pos rfl] at hv
   rw [hv]
   simp only [fmD, zdl]
   refine callQ [4, 5, 8] (HP) (by decide) (by simp -implicitDefEqProofs only [go_sem, h3]) (by simp -implicitDefEqProofs only [go_sem, h3]) ?_
   simp -implicitDefEqProofs only [go_sem, h3]
   refine zcq (by simp -implicitDefEqProofs only [go_sem]) ?_
   simp -implicitDefEqProofs only [go_sem]
   refine callF (HA) (by simp -implicitDefEqProofs only [go_sem]) ?_
   simp -implicitDefEqProofs only [go_sem]
   refine drawn (by kernel_rfl) ?_
   simp -implicitDefEqProofs only [go_sem]
   kernel_rfl
 ·have HI := zar f.op
  rw [hq] at HI
  rw [hq, Bool.true_and, Bool.true_and] at hv
  cases hvn : f.var == n
  ·rw [hvn, Bool.false_or] at hv
   have HCt := zcv V n
   refine drawn (by kernel_rfl) ?_
   simp -implicitDefEqProofs only [go_sem]
   refine zan (HI) (by simp -implicitDefEqProofs only [go_sem, hvn]) ?_
   simp -implicitDefEqProofs only [go_sem, hvn]
   cases hcn : V.contains n
   ·rw [hcn, if_pos (by simp)] at hv
    rw [hcn] at HCt
    rw [hv]
    simp only [fmD, zaa f]
    refine za6 (HF) (by simp -implicitDefEqProofs only [go_sem]) ?_
    simp -implicitDefEqProofs only [go_sem]
    refine za6 (HCt) (by simp -implicitDefEqProofs only [go_sem]) ?_
    simp -implicitDefEqProofs only [go_sem]
    refine ⟨by kernel_rfl, ?_⟩
    refine callF (HC) (by simp -implicitDefEqProofs only [go_sem]) ?_
    simp -implicitDefEqProofs only [go_sem]
   ·rw [hcn, if_neg (by simp)] at hv
    rw [hcn] at HCt
    refine za6 (HF) (by simp -implicitDefEqProofs only [go_sem]) ?_
    simp -implicitDefEqProofs only [go_sem]
    refine za6 (HCt) (by simp -implicitDefEqProofs only [go_sem]) ?_
    simp -implicitDefEqProofs only [go_sem]
    refine ⟨by kernel_rfl, ?_⟩
    refine callF (HI) (by simp -implicitDefEqProofs only [go_sem]) ?_
    simp -implicitDefEqProofs only [go_sem]
    have h3 : (f.op == 3) = false := by
     rw [beq_eq_false_iff_ne]
     intro e
     rw [e] at hq
     exact absurd hq (by decide)
    cases ho : decide (0 < zhj f.var t)
    ·rw [ho, if_neg (by simp), h3, if_neg (by simp)] at hv
     rw [ho] at HO
     rw [hv]
     simp only [fmD, zdl]
     refine callF (HO) (by simp -implicitDefEqProofs only [go_sem]) ?_
     simp -implicitDefEqProofs only [go_sem]
     refine callQ [4, 5, 8] (HP) (by decide) (by simp -implicitDefEqProofs only [go_sem, h3]) (by simp -implicitDefEqProofs only [go_sem, h3]) ?_
     simp -implicitDefEqProofs only [go_sem, h3]
     refine drawn (by kernel_rfl) ?_
     simp -implicitDefEqProofs only [go_sem]
     kernel_rfl
    ·rw [ho, if_pos rfl] at hv
     rw [ho] at HO
     rw [hv]
     simp only [fmD, zin, List.map_nil]
     refine callF (HO) (by simp -implicitDefEqProofs only [go_sem]) ?_
     simp -implicitDefEqProofs only [go_sem]
  ·rw [hvn, Bool.true_or, if_pos rfl] at hv
   refine drawn (by kernel_rfl) ?_
   simp -implicitDefEqProofs only [go_sem]
   rw [hv]
   simp only [fmD, zaa f]
   refine zan (HI) (by simp -implicitDefEqProofs only [go_sem, hvn]) ?_
   simp -implicitDefEqProofs only [go_sem, hvn]
   refine ⟨by kernel_rfl, ?_⟩
   refine callF (HC) (by simp -implicitDefEqProofs only [go_sem]) ?_
   simp -implicitDefEqProofs only [go_sem]
theorem zne (n : Str) (t : Tm) (ht : t.wt <= 1048576) : ∀ f : Fm, f.forms = true -> f.wt <= 1048576 -> FC Tryz.prog 229 [fmD f, sD n, tmD t] [fmD (zdj n t f).1, bD (zdj n t f).2] :=
 zcb fun o a v ps ih hf hw => zl4 n t ht (.mk o a v ps) hf hw fun x hx => ih x hx (by rw [Fm.forms_eq, Bool.and_eq_true] at hf; exact List.all_eq_true.1 hf.2 x hx) (Nat.le_trans (zct (a := .mk o a v ps) hx) hw)
end Go.Proofs.YtemnhgmgeijkcaaGreat
