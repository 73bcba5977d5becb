/-
  The walk over plain data, and contracts of functions of the program and of its laws.
  Conditions: those that each theorem names.
-/
import Derived.Test.YtbccfiillleimaaGreatQ5
namespace Go.Proofs.YtbccfiillleimaaGreat
set_option linter.unusedSimpArgs false
set_option linter.unusedVariables false
set_option linter.unusedSectionVars false
set_option maxRecDepth 4000
open Go.RowKit
def voI : Tm -> List Str := Tm.fold fun n xs rs => if (decide (xs.length = 0) && zkn (n.getD 0 0)) = true then [n] else rs.flatten
theorem zuv (a : Tm) : voI a = if (decide (a.args.length = 0) && zkn (a.name.getD 0 0)) = true then [a.name] else (a.args.map voI).flatten := Tm.fold_eq _ a
def voS : Tm -> List Str := Tm.fold fun n _ rs => if za2 n = true then [n] else rs.flatten
theorem zqx (a : Tm) : voS a = if za2 a.name = true then [a.name] else (a.args.map voS).flatten := Tm.fold_eq _ a
def Tm.ne : Tm -> Bool := Tm.fold fun n xs rs => (!decide (xs.length = 0) || decide (0 < n.length)) && rs.all id
theorem Tm.ne_eq' (a : Tm) : a.ne = ((!decide (a.args.length = 0) || decide (0 < a.name.length)) && a.args.all Tm.ne) := by
 unfold Tm.ne
 rw [Tm.fold_eq]
 simp only [List.all_map]
 rfl
def zta (l : List Str) (s : Str) : List Str := if l.contains s = true then l else l ++ [s]
def zc3 (l : List Str) (ss : List Str) : List Str := ss.foldl zta l
theorem qid (l : List Str) (s : Str) : (zta l s).length <= l.length + 1 := by unfold zta; split <;> simp
theorem zd0 : ∀ (ss : List Str) (l : List Str), (zc3 l ss).length <= l.length + ss.length
 | [], l => by simp [zc3]
 | s :: ss, l => by have := zd0 ss (zta l s); have := qid l s; simp only [zc3, List.foldl_cons, List.length_cons] at *; omega
theorem zhn (l a b : List Str) : zc3 l (a ++ b) = zc3 (zc3 l a) b := List.foldl_append ..
theorem qhl (l : List Str) (s x : Str) : x ∈ zta l s ↔ x = s \/ x ∈ l := by
 unfold zta
 split
 ·rename_i h
  have h : s ∈ l := by simpa using h
  exact ⟨Or.inr, fun k => k.elim (fun e => e ▸ h) id⟩
 ·simp [or_comm]
theorem zqb : ∀ (ss l : List Str) (x : Str), x ∈ zc3 l ss ↔ x ∈ ss \/ x ∈ l
 | [], l, x => by simp [zc3]
 | s :: ss, l, x => by
  show x ∈ zc3 (zta l s) ss ↔ _
  rw [zqb ss, qhl]; simp [or_assoc, or_left_comm, or_comm]
theorem qlc {l : List Str} (h : l.Nodup) (s : Str) : (zta l s).Nodup := by
 unfold zta
 split
 ·exact h
 ·rename_i hn
  have hn : s ∉ l := by simpa using hn
  exact List.nodup_append.2 ⟨h, by simp, fun a ha b hb e => hn (by rw [List.mem_singleton.1 hb] at e; exact e ▸ ha)⟩
theorem zvd : ∀ (ss : List Str) {l : List Str}, l.Nodup -> (zc3 l ss).Nodup
 | [], _, h => h
 | s :: ss, _, h => zvd ss (qlc h s)
def za5 (l : List Str) (ss : List Str) : List Str := ss.foldl zwr l
theorem zvo (l : List Str) (s : Str) : (zwr l s).length <= l.length + 1 := by
 unfold zwr
 split
 ·omega
 ·have : l.length = ((l.takeWhile fun x => Op.bytesLess x s) ++ l.dropWhile fun x => Op.bytesLess x s).length := by rw [List.takeWhile_append_dropWhile]
  simp only [List.length_append, List.length_cons, List.length_nil] at *; omega
theorem zcm : ∀ (ss : List Str) (l : List Str), (za5 l ss).length <= l.length + ss.length
 | [], l => by simp [za5]
 | s :: ss, l => by have := zcm ss (zwr l s); have := zvo l s; simp only [za5, List.foldl_cons, List.length_cons] at *; omega
theorem zia (l a b : List Str) : za5 l (a ++ b) = za5 (za5 l a) b := List.foldl_append ..
theorem zic : ∀ (ss l : List Str) (x : Str), x ∈ za5 l ss ↔ x ∈ ss \/ x ∈ l
 | [], l, x => by simp [za5]
 | s :: ss, l, x => by
  show x ∈ za5 (zwr l s) ss ↔ _
  rw [zic ss, qfk]; simp [or_assoc, or_left_comm, or_comm]
theorem zq0 : ∀ (ss : List Str) {l : List Str}, Srt l -> Srt (za5 l ss)
 | [], _, h => h
 | s :: ss, _, h => zq0 ss (qh9 h s)
theorem zvi (ss : List Str) : zjl (zc3 [] ss) = za5 [] ss :=
 qm0 (qbs (zvd ss List.nodup_nil)) (zq0 ss List.Pairwise.nil) fun s => by rw [zzd, zqb, zic]
theorem qau (a : Tm) (h : 0 < a.name.length) : FC Tryz.prog 193 [tmD a] [bD (zkn (a.name.getD 0 0))] := by
 simp only [tmD, zaa]
 refine zaj Tryz.call193 Tryz.func193 rfl (by kernel_rfl) (zav (by kernel_rfl)) ?_
 simp -implicitDefEqProofs only [go_sem, Tryz.results193]
 have h0 : (0 : Int) < a.name.length := by omega
 simp -implicitDefEqProofs only [go_sem, h0, h]
 refine callF (zqn (a.name.getD 0 0)) (by simp -implicitDefEqProofs only [go_sem]) ?_
 simp -implicitDefEqProofs only [go_sem]
theorem zc4 {α : Type} (f : α -> List Str) (xs : List α) (k : Nat) (h : k < xs.length) : ((xs.take (k + 1)).map f).flatten = ((xs.take k).map f).flatten ++ f xs[k] := by
 rw [List.take_succ_eq_append_getElem h, List.map_append, List.flatten_append]; simp
theorem zth {α : Type} (f : α -> List Str) : ∀ (xs : List α), ∀ x ∈ xs, (f x).length <= ((xs.map f).flatten).length
 | [], x, h => by simp at h
 | a :: xs, x, h => by
  rcases List.mem_cons.1 h with rfl | h
  ·simp
  ·have := zth f xs x h; simp at *; omega
theorem zb4 {α : Type} (f : α -> List Str) (xs : List α) (k : Nat) (h : k < xs.length) : (((xs.take k).map f).flatten).length + (f xs[k]).length <= ((xs.map f).flatten).length := by
 have e : xs = xs.take k ++ xs[k] :: xs.drop (k + 1) := by rw [<- List.drop_eq_getElem_cons h, List.take_append_drop]
 conv => rhs; rw [e]
 simp only [List.map_append, List.map_cons, List.flatten_append, List.flatten_cons, List.length_append]; omega
set_option maxHeartbeats 1000000 in
theorem zxe (a : Tm) (ha : a.ne = true) (H : ∀ x ∈ a.args, ∀ ys : List Str, ys.length + (voI x).length <= 1073741824 -> GC Tryz.prog 124 [(true, .one (zbq ys)), (false, tmD x)] [.one (zbq (zc3 ys (voI x)))])
  (ys : List Str) (hs : ys.length + (voI a).length <= 1073741824) (hl : a.args.length <= 1099511627776) : GC Tryz.prog 124 [(true, .one (zbq ys)), (false, tmD a)] [.one (zbq (zc3 ys (voI a)))] := by
 have hv := zuv a
 rw [Tm.ne_eq'] at ha
 simp only [tmD, zaa]
 refine zql Tryz.call124 Tryz.func124 rfl (by kernel_rfl) (by simp only [List.length_cons, List.length_nil, Tryz.ntmps124]; omega) (by simp [zbm, T.isPin]) ?_
 simp -implicitDefEqProofs only [go_sem, Tryz.results124]
 by_cases h0 : a.args.length = 0
 ·have hn : 0 < a.name.length := by simp [h0] at ha; omega
  have e0 : ((a.args.length : Int) == 0) = true := by simp [h0]
  have hV := qau a hn
  simp only [tmD, zaa] at hV
  simp -implicitDefEqProofs only [go_sem, e0]
  refine callF (hV) (by simp -implicitDefEqProofs only [go_sem]) ?_
  simp -implicitDefEqProofs only [go_sem]
  refine ⟨fun h1 => ?_, fun h1 => ?_⟩
  ·rw [h1, show decide (a.args.length = 0) = true by simpa using h0, Bool.true_and, if_pos rfl] at hv
   rw [hv] at hs ⊢
   refine callF (zbk ys a.name) (by simp -implicitDefEqProofs only [go_sem]) ?_
   simp -implicitDefEqProofs only [go_sem]
   have hy : ys.length + 1 <= 4294967296 := by simp at hs; omega
   have hy2 : ys.length <= 4294967295 := by simp at hs; omega
   refine ⟨fun h2 => ?_, fun h2 => ?_⟩
   ·have h2 : ys.contains a.name = false := by simpa using h2
    refine zbd (by simp -implicitDefEqProofs only [go_sem]) ?_
    simp -implicitDefEqProofs only [go_sem]
    refine apD true (by simp -implicitDefEqProofs only [go_sem, hy, hy2, ne_eq, List.length_map]) ?_
    simp -implicitDefEqProofs only [go_sem, hy, hy2, ne_eq, List.length_map]
    have e : zc3 ys [a.name] = ys ++ [a.name] := by show zta ys a.name = _; unfold zta; rw [h2]; simp
    exact Or.inl (by rw [e]; simp)
   ·have h2 : ys.contains a.name = true := by simpa using h2
    have e : zc3 ys [a.name] = ys := by show zta ys a.name = _; unfold zta; rw [h2]; simp
    exact Or.inl (by rw [e])
  ·rw [h1, Bool.and_false, if_neg (by simp), List.length_eq_zero_iff.1 h0, List.map_nil, List.flatten_nil] at hv
   have hv : voI a = (a.args.map voI).flatten := by rw [hv, List.length_eq_zero_iff.1 h0]; rfl
   rw [hv] at hs ⊢
   refine zae (fun k : Nat => hd [(0, .one (.ow 0 0)), (27, .one (.rn (tmS a.args))), (28, vI a.args.length), (29, vI k)] [] [(0, ⟨true, 1, (zc3 ys ((a.args.take k).map voI).flatten).map fun s => [.str s], 0, true⟩)]) (fun k => k <= a.args.length) (fun k => a.args.length - k) 0 (zac ?_) (Nat.zero_le _) ?_
   ·simp -implicitDefEqProofs only [go_sem]
    rfl
   ·intro k hk
    by_cases hlt : k < a.args.length
    ·have hf := zb4 voI a.args k hlt
     have hL := zd0 ((a.args.take k).map voI).flatten ys
     have hx := zth voI a.args _ (List.getElem_mem hlt)
     have HC := H a.args[k] (List.getElem_mem hlt) (zc3 ys ((a.args.take k).map voI).flatten) (by omega)
     rw [<- zhn, <- zc4 voI a.args k hlt] at HC
     simp only [tmD, zaa a.args[k]] at HC
     simp -implicitDefEqProofs only [go_sem, zad, hlt, zaa a.args[k]]
     refine zc5 [27, 28, 29] [33, 34] [] (HC) (by simp -implicitDefEqProofs only [go_sem]) (by simp -implicitDefEqProofs only [go_sem]) (by simp -implicitDefEqProofs only [go_sem]) (by simp -implicitDefEqProofs only [go_sem]) ?_
     simp -implicitDefEqProofs only [go_sem]
     refine ⟨k + 1, hlt, by omega, zcz 0 1120 ?_⟩
     simp -implicitDefEqProofs only [go_sem]
     rw [zap (by omega)]
    ·simp -implicitDefEqProofs only [go_sem, hlt]
     exact Or.inl (by rw [List.take_of_length_le (by omega)])
 ·have e0 : ((a.args.length : Int) == 0) = false := by simp [h0]
  rw [show decide (a.args.length = 0) = false by simpa using h0, Bool.false_and, if_neg (by simp)] at hv
  rw [hv] at hs ⊢
  simp -implicitDefEqProofs only [go_sem, e0]
  refine zae (fun k : Nat => hd [(0, .one (.ow 0 0)), (27, .one (.rn (tmS a.args))), (28, vI a.args.length), (29, vI k)] [] [(0, ⟨true, 1, (zc3 ys ((a.args.take k).map voI).flatten).map fun s => [.str s], 0, true⟩)]) (fun k => k <= a.args.length) (fun k => a.args.length - k) 0 (zac ?_) (Nat.zero_le _) ?_
  ·simp -implicitDefEqProofs only [go_sem]
   rfl
  ·intro k hk
   by_cases hlt : k < a.args.length
   ·have hf := zb4 voI a.args k hlt
    have hL := zd0 ((a.args.take k).map voI).flatten ys
    have hx := zth voI a.args _ (List.getElem_mem hlt)
    have HC := H a.args[k] (List.getElem_mem hlt) (zc3 ys ((a.args.take k).map voI).flatten) (by omega)
    rw [<- zhn, <- zc4 voI a.args k hlt] at HC
    simp only [tmD, zaa a.args[k]] at HC
    simp -implicitDefEqProofs only [go_sem, zad, hlt, zaa a.args[k]]
    refine zc5 [27, 28, 29] [33, 34] [] (HC) (by simp -implicitDefEqProofs only [go_sem]) (by simp -implicitDefEqProofs only [go_sem]) (by simp -implicitDefEqProofs only [go_sem]) (by simp -implicitDefEqProofs only [go_sem]) ?_
    simp -implicitDefEqProofs only [go_sem]
    refine ⟨k + 1, hlt, by omega, zcz 0 1120 ?_⟩
    simp -implicitDefEqProofs only [go_sem]
    rw [zap (by omega)]
   ·simp -implicitDefEqProofs only [go_sem, hlt]
    exact Or.inl (by rw [List.take_of_length_le (by omega)])
theorem zy6 : ∀ a : Tm, a.ne = true -> a.wt <= 1099511627776 -> ∀ ys : List Str, ys.length + (voI a).length <= 1073741824 -> GC Tryz.prog 124 [(true, .one (zbq ys)), (false, tmD a)] [.one (zbq (zc3 ys (voI a)))] :=
 zbp fun n xs ih ha hw ys hs => zxe (.mk n xs) ha (fun x hx ys hs => ih x hx (by rw [Tm.ne_eq', Bool.and_eq_true] at ha; exact List.all_eq_true.1 ha.2 x hx) (by
  have := Tm.wt_eq (.mk n xs)
  have := za6 Tm.wt xs x hx
  simp only [Tm.args] at *; omega) ys hs) ys hs (by have := Tm.wt_eq (.mk n xs); omega)
theorem zj4 (a : Tm) (ha : a.ne = true) (hw : a.wt <= 1099511627776) (hs : (voI a).length <= 1073741824) : FC Tryz.prog 205 [tmD a] [.one (zbq (za5 [] (voI a)))] := by
 have HC := zy6 a ha hw [] (by simpa using hs)
 have HS := zpk (zc3 [] (voI a)) (by have := zd0 (voI a) []; simp at this; omega)
 rw [zvi] at HS
 simp only [tmD, zaa] at HC ⊢
 refine zcv Tryz.call205 Tryz.func205 rfl (by kernel_rfl) (zav (by kernel_rfl)) ?_
 simp -implicitDefEqProofs only [go_sem, Tryz.results205]
 refine zbd (by simp -implicitDefEqProofs only [go_sem]) ?_
 simp -implicitDefEqProofs only [go_sem]
 refine zc5 [] [4, 5] [] (HC) (by simp -implicitDefEqProofs only [go_sem]) (by simp -implicitDefEqProofs only [go_sem]) (by simp -implicitDefEqProofs only [go_sem]) (by simp -implicitDefEqProofs only [go_sem]) ?_
 simp -implicitDefEqProofs only [go_sem]
 refine qj7 (HS) (by simp -implicitDefEqProofs only [go_sem, zaz]) (by simp -implicitDefEqProofs only [go_sem, zaz]) rfl ?_
 simp -implicitDefEqProofs only [go_sem, zaz]
theorem qem (a : Tm) (H : ∀ x ∈ a.args, ∀ ys : List Str, ys.length + (voS x).length <= 1073741824 -> GC Tryz.prog 161 [(true, .one (zbq ys)), (false, tmD x)] [.one (zbq (za5 ys (voS x)))])
  (ys : List Str) (hs : ys.length + (voS a).length <= 1073741824) (hl : a.args.length <= 1099511627776) : GC Tryz.prog 161 [(true, .one (zbq ys)), (false, tmD a)] [.one (zbq (za5 ys (voS a)))] := by
 have hv := zqx a
 simp only [tmD, zaa]
 refine zql Tryz.call161 Tryz.func161 rfl (by kernel_rfl) (by simp only [List.length_cons, List.length_nil, Tryz.ntmps161]; omega) (by simp [zbm, T.isPin]) ?_
 simp -implicitDefEqProofs only [go_sem, Tryz.results161]
 refine callF (zf5 a.name) (by simp -implicitDefEqProofs only [go_sem]) ?_
 simp -implicitDefEqProofs only [go_sem]
 refine ⟨fun h => ?_, fun h => ?_⟩
 ·rw [if_pos h] at hv
  rw [hv] at hs ⊢
  refine zc5 [] [9, 11] [] (qaf ys a.name (by simp at hs; omega)) (by simp -implicitDefEqProofs only [go_sem]) (by simp -implicitDefEqProofs only [go_sem]) (by simp -implicitDefEqProofs only [go_sem]) (by simp -implicitDefEqProofs only [go_sem]) ?_
  simp -implicitDefEqProofs only [go_sem]
  exact Or.inl rfl
 ·rw [h, if_neg (by simp)] at hv
  rw [hv] at hs ⊢
  refine zae (fun k : Nat => hd [(0, .one (.ow 0 0)), (3, .one (.bx 3 0)), (5, vI k)] [(3, [.t (.str a.name), .rn (tmS a.args)])] [(0, ⟨true, 1, (za5 ys ((a.args.take k).map voS).flatten).map fun s => [.str s], 0, true⟩)]) (fun k => k <= a.args.length) (fun k => a.args.length - k) 0 (zac ?_) (Nat.zero_le _) ?_
  ·simp -implicitDefEqProofs only [go_sem]
   rfl
  ·intro k hk
   by_cases hlt : k < a.args.length
   ·have hf := zb4 voS a.args k hlt
    have hL := zcm ((a.args.take k).map voS).flatten ys
    have HC := H a.args[k] (List.getElem_mem hlt) (za5 ys ((a.args.take k).map voS).flatten) (by omega)
    rw [<- zia, <- zc4 voS a.args k hlt] at HC
    simp only [tmD, zaa a.args[k]] at HC
    simp -implicitDefEqProofs only [go_sem, zad, hlt, zaa a.args[k]]
    refine zc5 [3, 5] [20, 25] [] (HC) (by simp -implicitDefEqProofs only [go_sem]) (by simp -implicitDefEqProofs only [go_sem]) (by simp -implicitDefEqProofs only [go_sem]) (by simp -implicitDefEqProofs only [go_sem]) ?_
    simp -implicitDefEqProofs only [go_sem]
    refine ⟨k + 1, hlt, by omega, zcz 0 832 ?_⟩
    simp -implicitDefEqProofs only [go_sem]
    rw [zap (by omega)]
   ·simp -implicitDefEqProofs only [go_sem, hlt]
    exact Or.inl (by rw [List.take_of_length_le (by omega)])
end Go.Proofs.YtbccfiillleimaaGreat
namespace Go.Proofs.YtbccfiillleimaaGreat
set_option linter.unusedSimpArgs false
set_option linter.unusedVariables false
set_option linter.unusedSectionVars false
set_option maxRecDepth 4000
open Go.RowKit
def Fm.nodes : Fm -> Nat := Fm.fold fun _ _ _ _ rs => 1 + rs.sum
theorem Fm.nodes_eq (a : Fm) : a.nodes = 1 + (a.parts.map Fm.nodes).sum := Fm.fold_eq _ a
theorem zd6 : ∀ a : Fm, a.nodes <= 1 + a.wt := by
 refine zbr fun o a v xs ih => ?_
 rw [Fm.nodes_eq, Fm.wt_eq]
 show 1 + (xs.map Fm.nodes).sum <= 1 + (a.wt + v.length + xs.length + (xs.map Fm.wt).sum)
 have : (xs.map Fm.nodes).sum <= xs.length + (xs.map Fm.wt).sum := by
  induction xs with
  | nil => simp
  | cons x xs ih2 =>
   have h1 := ih x (by simp)
   have h2 := ih2 fun y hy => ih y (by simp [hy])
   simp only [List.map_cons, List.sum_cons, List.length_cons]
   omega
 omega
def zgf : Fm -> Int := Fm.fold fun _ _ _ _ rs => szL 40 1 rs
theorem zu3 (a : Fm) : zgf a = szL 40 1 (a.parts.map zgf) := Fm.fold_eq _ a
theorem zl2 : ∀ a : Fm, 1 <= zgf a /\ zgf a <= a.nodes /\ (zgf a <= 40 -> zgf a = a.nodes) := by
 refine zbr fun o a v xs ih => ?_
 rw [zu3, Fm.nodes_eq]
 show 1 <= szL 40 1 (xs.map zgf) /\ szL 40 1 (xs.map zgf) <= ((1 + (xs.map Fm.nodes).sum : Nat) : Int) /\ _
 obtain ⟨k1, k2, k3⟩ := zjn zgf Fm.nodes 40 xs 1 (by omega) ih
 refine ⟨k2, by omega, fun h => ?_⟩
 have := k3 h
 show szL 40 1 (xs.map zgf) = _
 rw [this]; show _ = ((1 + (xs.map Fm.nodes).sum : Nat) : Int); omega
theorem qfr (a : Fm) : decide (zgf a <= 40) = decide (a.nodes <= 40) := by
 obtain ⟨h1, h2, h3⟩ := zl2 a
 rw [decide_eq_decide]
 exact ⟨fun h => by have := h3 h; omega, fun h => by omega⟩
theorem zby {a x : Fm} (h : x ∈ a.parts) : x.wt <= a.wt := by
 have := Fm.wt_eq a
 have := za6 Fm.wt a.parts x h
 omega
theorem znw {a x : Tm} (h : x ∈ a.args) : x.wt <= a.wt := by
 have := Tm.wt_eq a
 have := za6 Tm.wt a.args x h
 omega
theorem zik (a : Fm) : a.atom.wt <= a.wt := by have := Fm.wt_eq a; omega
set_option maxHeartbeats 400000 in
theorem zzb (a : Fm) (hs : a.wt <= 1099511627776) (H : ∀ x ∈ a.parts, FC Tryz.prog 183 [fmD x] [iD (zgf x)]) : FC Tryz.prog 183 [fmD a] [iD (zgf a)] := by
 have hl : a.parts.length <= 9223372036854775807 := by rw [Fm.wt_eq] at hs; omega
 have hn := zd6 a
 have hN := a.nodes_eq
 simp only [fmD, zab]
 refine zaj Tryz.call183 Tryz.func183 rfl (by kernel_rfl) (zav (by kernel_rfl)) ?_
 simp -implicitDefEqProofs only [go_sem, Tryz.results183]
 refine zae (fun p : Nat × Int => hd [(3, vI p.2), (7, vT (fmS a.parts)), (8, vI a.parts.length), (9, vI p.1)] [] []) (fun p => p.1 <= a.parts.length /\ zgf a = szL 40 p.2 ((a.parts.drop p.1).map zgf) /\ 1 <= p.2 /\ p.2 + zw3 Fm.nodes a.parts p.1 <= a.nodes) (fun p => a.parts.length - p.1) (0, 1) (zac ?_) ?_ ?_
 ·simp -implicitDefEqProofs only [go_sem]
 ·exact ⟨by simp, by rw [zu3]; rfl, by omega, by rw [zdl]; omega⟩
 ·intro ⟨k, n⟩ ⟨hk, hr, h1, h2⟩
  simp only at hk hr h1 h2
  by_cases hlt : k < a.parts.length
  ·have hd := zf0 Fm.nodes a.parts k hlt
   obtain ⟨s1, s2, s3⟩ := zl2 a.parts[k]
   rw [List.drop_eq_getElem_cons hlt, List.map_cons, szL] at hr
   simp -implicitDefEqProofs only [go_sem, zad, hlt, zab]
   refine ⟨fun h => ?_, fun h => ?_⟩
   ·rw [hr, if_pos (by simpa using h)]
   ·refine callF (H a.parts[k] (List.getElem_mem hlt)) (by simp -implicitDefEqProofs only [go_sem, zab]) ?_
    simp -implicitDefEqProofs only [go_sem, zab]
    rw [if_neg (by simpa using h)] at hr
    exact ⟨(k + 1, n + zgf a.parts[k]), ⟨hlt, hr, by simp only; omega, by simp only; omega⟩, by simp only; omega, zac (by simp -implicitDefEqProofs only [go_sem]; rw [zap (by omega), zbh (by omega) (by omega)]; exact ⟨rfl, rfl⟩)⟩
  ·simp -implicitDefEqProofs only [go_sem, hlt]
   rw [hr, List.drop_of_length_le (by omega)]; rfl
theorem qfd : ∀ a : Fm, a.wt <= 1099511627776 -> FC Tryz.prog 183 [fmD a] [iD (zgf a)] :=
 zbr fun o a v xs ih hs => zzb (.mk o a v xs) hs fun x hx => ih x hx (Nat.le_trans (zby (a := .mk o a v xs) hx) hs)
def mnL (most : Int) : Int -> List (Int -> Int) -> Int
 | n, [] => n
 | n, r :: rs => if n <= most then mnL most (n + r (most - n)) rs else n
theorem zjo {α : Type} (f : α -> Int -> Int) (g : α -> Nat) (most : Int) : ∀ (xs : List α) (n : Int), 0 <= n -> (∀ x ∈ xs, ∀ m, 0 <= m -> 1 <= f x m /\ f x m <= g x /\ (f x m <= m -> f x m = g x)) -> mnL most n (xs.map f) <= n + (xs.map g).sum /\ n <= mnL most n (xs.map f) /\ (mnL most n (xs.map f) <= most -> mnL most n (xs.map f) = n + (xs.map g).sum)
 | [], n, _, _ => by simp [mnL]
 | x :: xs, n, hn, h => by
  simp only [List.map_cons, mnL, List.sum_cons]
  split
  ·obtain ⟨h1, h2, h3⟩ := h x (by simp) (most - n) (by omega)
   obtain ⟨k1, k2, k3⟩ := zjo f g most xs (n + f x (most - n)) (by omega) fun y hy => h y (by simp [hy])
   refine ⟨by omega, by omega, fun hh => ?_⟩
   have := k3 hh
   have : f x (most - n) = g x := h3 (by omega)
   omega
  ·refine ⟨by omega, by omega, fun hh => by omega⟩
def ze5 : Tm -> Int -> Int := Tm.fold fun _ _ rs m => mnL m 1 rs
theorem zus (a : Tm) (m : Int) : ze5 a m = mnL m 1 (a.args.map ze5) := congrFun (Tm.fold_eq _ a) m
theorem zmo : ∀ (a : Tm) (m : Int), 0 <= m -> 1 <= ze5 a m /\ ze5 a m <= a.nodes /\ (ze5 a m <= m -> ze5 a m = a.nodes) := by
 refine zbp fun b0 xs ih m hm => ?_
 rw [zus, Tm.nodes_eq]
 show 1 <= mnL m 1 (xs.map ze5) /\ mnL m 1 (xs.map ze5) <= ((1 + (xs.map Tm.nodes).sum : Nat) : Int) /\ (mnL m 1 (xs.map ze5) <= m -> mnL m 1 (xs.map ze5) = ((1 + (xs.map Tm.nodes).sum : Nat) : Int))
 obtain ⟨k1, k2, k3⟩ := zjo ze5 Tm.nodes m xs 1 (by omega) ih
 refine ⟨k2, by omega, fun h => ?_⟩
 have := k3 h
 omega
theorem qg3 (a : Tm) (m : Nat) : decide (ze5 a m <= m) = decide (a.nodes <= m) := by
 obtain ⟨h1, h2, h3⟩ := zmo a m (by omega)
 rw [decide_eq_decide]
 exact ⟨fun h => by have := h3 h; omega, fun h => by omega⟩
set_option maxHeartbeats 400000 in
theorem qcs (a : Tm) (hs : a.wt <= 1099511627776) (H : ∀ x ∈ a.args, ∀ m : Int, 0 <= m -> m <= 1099511627776 -> FC Tryz.prog 252 [tmD x, iD m] [iD (ze5 x m)]) (m : Int) (h0 : 0 <= m) (h1 : m <= 1099511627776) : FC Tryz.prog 252 [tmD a, iD m] [iD (ze5 a m)] := by
 have hl : a.args.length <= 9223372036854775807 := by rw [Tm.wt_eq] at hs; omega
 have hn := ze7 a
 have hN := a.nodes_eq
 simp only [tmD, zaa]
 refine zaj Tryz.call252 Tryz.func252 rfl (by kernel_rfl) (zav (by kernel_rfl)) ?_
 simp -implicitDefEqProofs only [go_sem, Tryz.results252]
 refine zae (fun p : Nat × Int => hd [(1, vI m), (2, .one (.bx 2 0)), (5, vI p.2), (6, vI p.1)] [(2, [.t (.str a.name), .t (tmS a.args)])] []) (fun p => p.1 <= a.args.length /\ ze5 a m = mnL m p.2 ((a.args.drop p.1).map ze5) /\ 1 <= p.2 /\ p.2 + zw3 Tm.nodes a.args p.1 <= a.nodes) (fun p => a.args.length - p.1) (0, 1) (zac ?_) ?_ ?_
 ·simp -implicitDefEqProofs only [go_sem]
 ·exact ⟨by simp, by rw [zus]; rfl, by omega, by rw [zdl]; omega⟩
 ·intro ⟨k, n⟩ ⟨hk, hr, h2, h3⟩
  simp only at hk hr h2 h3
  by_cases hlt : k < a.args.length
  ·have hd := zf0 Tm.nodes a.args k hlt
   rw [List.drop_eq_getElem_cons hlt, List.map_cons, mnL] at hr
   simp -implicitDefEqProofs only [go_sem, zad, hlt, zaa]
   refine ⟨fun h => ?_, fun h => ?_⟩
   ·have hle : n <= m := by simpa using h
    obtain ⟨s1, s2, s3⟩ := zmo a.args[k] (m - n) (by omega)
    rw [zbh (n := m - n) (by omega) (by omega)]
    refine callF (H a.args[k] (List.getElem_mem hlt) (m - n) (by omega) (by omega)) (by simp -implicitDefEqProofs only [go_sem, zaa]) ?_
    simp -implicitDefEqProofs only [go_sem, zaa]
    rw [if_pos hle] at hr
    exact ⟨(k + 1, n + ze5 a.args[k] (m - n)), ⟨hlt, hr, by simp only; omega, by simp only; omega⟩, by simp only; omega, zac (by simp -implicitDefEqProofs only [go_sem]; rw [zap (by omega), zbh (by omega) (by omega)]; exact ⟨rfl, rfl⟩)⟩
   ·rw [hr, if_neg (by simpa using h)]
  ·simp -implicitDefEqProofs only [go_sem, hlt]
   rw [hr, List.drop_of_length_le (by omega)]; rfl
theorem qf7 : ∀ a : Tm, a.wt <= 1099511627776 -> ∀ m : Int, 0 <= m -> m <= 1099511627776 -> FC Tryz.prog 252 [tmD a, iD m] [iD (ze5 a m)] :=
 zbp fun b0 xs ih hs => qcs (.mk b0 xs) hs fun x hx => ih x hx (Nat.le_trans (znw (a := .mk b0 xs) hx) hs)
def zfh : Fm -> Int -> Int := Fm.fold fun _ _ _ _ rs m => mnL m 1 rs
theorem zv0 (a : Fm) (m : Int) : zfh a m = mnL m 1 (a.parts.map zfh) := congrFun (Fm.fold_eq _ a) m
theorem zm3 : ∀ (a : Fm) (m : Int), 0 <= m -> 1 <= zfh a m /\ zfh a m <= a.nodes /\ (zfh a m <= m -> zfh a m = a.nodes) := by
 refine zbr fun b0 b1 b2 xs ih m hm => ?_
 rw [zv0, Fm.nodes_eq]
 show 1 <= mnL m 1 (xs.map zfh) /\ mnL m 1 (xs.map zfh) <= ((1 + (xs.map Fm.nodes).sum : Nat) : Int) /\ (mnL m 1 (xs.map zfh) <= m -> mnL m 1 (xs.map zfh) = ((1 + (xs.map Fm.nodes).sum : Nat) : Int))
 obtain ⟨k1, k2, k3⟩ := zjo zfh Fm.nodes m xs 1 (by omega) ih
 refine ⟨k2, by omega, fun h => ?_⟩
 have := k3 h
 omega
theorem qip (a : Fm) (m : Nat) : decide (zfh a m <= m) = decide (a.nodes <= m) := by
 obtain ⟨h1, h2, h3⟩ := zm3 a m (by omega)
 rw [decide_eq_decide]
 exact ⟨fun h => by have := h3 h; omega, fun h => by omega⟩
set_option maxHeartbeats 400000 in
theorem qbm (a : Fm) (hs : a.wt <= 1099511627776) (H : ∀ x ∈ a.parts, ∀ m : Int, 0 <= m -> m <= 1099511627776 -> FC Tryz.prog 143 [fmD x, iD m] [iD (zfh x m)]) (m : Int) (h0 : 0 <= m) (h1 : m <= 1099511627776) : FC Tryz.prog 143 [fmD a, iD m] [iD (zfh a m)] := by
 have hl : a.parts.length <= 9223372036854775807 := by rw [Fm.wt_eq] at hs; omega
 have hn := zd6 a
 have hN := a.nodes_eq
 simp only [fmD, zab]
 refine zaj Tryz.call143 Tryz.func143 rfl (by kernel_rfl) (zav (by kernel_rfl)) ?_
 simp -implicitDefEqProofs only [go_sem, Tryz.results143]
 refine zae (fun p : Nat × Int => hd [(1, vI m), (2, .one (.bx 2 0)), (5, vI p.2), (6, vI p.1)] [(2, [.t (.int .i64 a.op), .t (.str a.atom.name), .t (tmS a.atom.args), .t (.str a.var), .t (fmS a.parts)])] []) (fun p => p.1 <= a.parts.length /\ zfh a m = mnL m p.2 ((a.parts.drop p.1).map zfh) /\ 1 <= p.2 /\ p.2 + zw3 Fm.nodes a.parts p.1 <= a.nodes) (fun p => a.parts.length - p.1) (0, 1) (zac ?_) ?_ ?_
 ·simp -implicitDefEqProofs only [go_sem]
 ·exact ⟨by simp, by rw [zv0]; rfl, by omega, by rw [zdl]; omega⟩
 ·intro ⟨k, n⟩ ⟨hk, hr, h2, h3⟩
  simp only at hk hr h2 h3
  by_cases hlt : k < a.parts.length
  ·have hd := zf0 Fm.nodes a.parts k hlt
   rw [List.drop_eq_getElem_cons hlt, List.map_cons, mnL] at hr
   simp -implicitDefEqProofs only [go_sem, zad, hlt, zab]
   refine ⟨fun h => ?_, fun h => ?_⟩
   ·have hle : n <= m := by simpa using h
    obtain ⟨s1, s2, s3⟩ := zm3 a.parts[k] (m - n) (by omega)
    rw [zbh (n := m - n) (by omega) (by omega)]
    refine callF (H a.parts[k] (List.getElem_mem hlt) (m - n) (by omega) (by omega)) (by simp -implicitDefEqProofs only [go_sem, zab]) ?_
    simp -implicitDefEqProofs only [go_sem, zab]
    rw [if_pos hle] at hr
    exact ⟨(k + 1, n + zfh a.parts[k] (m - n)), ⟨hlt, hr, by simp only; omega, by simp only; omega⟩, by simp only; omega, zac (by simp -implicitDefEqProofs only [go_sem]; rw [zap (by omega), zbh (by omega) (by omega)]; exact ⟨rfl, rfl⟩)⟩
   ·rw [hr, if_neg (by simpa using h)]
  ·simp -implicitDefEqProofs only [go_sem, hlt]
   rw [hr, List.drop_of_length_le (by omega)]; rfl
theorem qib : ∀ a : Fm, a.wt <= 1099511627776 -> ∀ m : Int, 0 <= m -> m <= 1099511627776 -> FC Tryz.prog 143 [fmD a, iD m] [iD (zfh a m)] :=
 zbr fun b0 b1 b2 xs ih hs => qbm (.mk b0 b1 b2 xs) hs fun x hx => ih x hx (Nat.le_trans (zby (a := .mk b0 b1 b2 xs) hx) hs)
end Go.Proofs.YtbccfiillleimaaGreat
namespace Go.Proofs.YtbccfiillleimaaGreat
set_option linter.unusedSimpArgs false
set_option linter.unusedVariables false
set_option linter.unusedSectionVars false
set_option maxRecDepth 4000
open Go.RowKit
set_option maxHeartbeats 400000 in
theorem zxk (a : Tm) (hs : a.wt <= 1099511627776) (H : ∀ x ∈ a.args, FC Tryz.prog 253 [tmD x] [iD x.depth]) : FC Tryz.prog 253 [tmD a] [iD a.depth] := by
 have hl : a.args.length <= 9223372036854775807 := by rw [Tm.wt_eq] at hs; omega
 have hn := ze7 a
 have hdn := zle a
 have hD := a.depth_eq
 simp only [tmD, zaa]
 refine zaj Tryz.call253 Tryz.func253 rfl (by kernel_rfl) (zav (by kernel_rfl)) ?_
 simp -implicitDefEqProofs only [go_sem, Tryz.results253]
 refine zae (fun p : Nat × Nat => hd [(1, .one (.bx 1 0)), (3, vI p.2), (4, vI p.1)] [(1, [.t (.str a.name), .t (tmS a.args)])] []) (fun p => p.1 <= a.args.length /\ a.depth = ((a.args.drop p.1).map Tm.depth).foldl max p.2 + 1) (fun p => a.args.length - p.1) (0, 0) (zac ?_) ?_ ?_
 ·simp -implicitDefEqProofs only [go_sem]
 ·exact ⟨by simp, hD⟩
 ·intro ⟨k, n⟩ ⟨hk, hr⟩
  simp only at hk hr
  by_cases hlt : k < a.args.length
  ·rw [List.drop_eq_getElem_cons hlt, List.map_cons, List.foldl_cons] at hr
   simp -implicitDefEqProofs only [go_sem, zad, hlt, zaa]
   refine callF (H a.args[k] (List.getElem_mem hlt)) (by simp -implicitDefEqProofs only [go_sem, zaa]) ?_
   simp -implicitDefEqProofs only [go_sem, zaa]
   refine callF (qi1 n a.args[k].depth) (by simp -implicitDefEqProofs only [go_sem, zaa]) ?_
   simp -implicitDefEqProofs only [go_sem, zaa]
   exact ⟨(k + 1, max n a.args[k].depth), ⟨hlt, hr⟩, by simp only; omega, zac (by simp -implicitDefEqProofs only [go_sem]; rw [zap (by omega)]; exact ⟨by congr 1; omega, rfl⟩)⟩
  ·simp -implicitDefEqProofs only [go_sem, hlt]
   rw [List.drop_of_length_le (by omega)] at hr
   simp only [List.map_nil, List.foldl_nil] at hr
   rw [hr, zap (by omega)]
theorem qd8 : ∀ a : Tm, a.wt <= 1099511627776 -> FC Tryz.prog 253 [tmD a] [iD a.depth] :=
 zbp fun n xs ih hs => zxk (.mk n xs) hs fun x hx => ih x hx (Nat.le_trans (znw (a := .mk n xs) hx) hs)
theorem zu9 (a : Tm) (hs : a.wt <= 1099511627776) : FC Tryz.prog 214 [tmD a] [bD (zg6 a)] := by
 simp only [tmD, zaa]
 refine zaj Tryz.call214 Tryz.func214 rfl (by kernel_rfl) (zav (by kernel_rfl)) ?_
 simp -implicitDefEqProofs only [go_sem, Tryz.results214]
 refine callF (qf7 a hs 30 (by omega) (by omega)) (by simp -implicitDefEqProofs only [go_sem, zaa]) ?_
 simp -implicitDefEqProofs only [go_sem, zaa]
 rw [show decide (ze5 a 30 <= 30) = decide (a.nodes <= 30) from qg3 a 30]
 refine ⟨fun h => ?_, fun h => ?_⟩
 ·refine callF (qd8 a hs) (by simp -implicitDefEqProofs only [go_sem, zaa]) ?_
  simp -implicitDefEqProofs only [go_sem, zaa]
  rw [zg6, h, Bool.true_and]
  congr 1
  rw [decide_eq_decide]; omega
 ·rw [zg6, h]; rfl
theorem zxl (a : Tm) (H : ∀ x ∈ a.args, FC Tryz.prog 215 [tmD x] [bD x.names]) : FC Tryz.prog 215 [tmD a] [bD a.names] := by
 refine zc1 (fun hw => ?_) Tryz.call215
 have hl : a.args.length <= 9223372036854775807 := by simp only [tmD, zaa] at hw; simp [zfq, wfT, zpd] at hw; exact hw.2.1
 have hN := a.names_eq
 simp only [tmD, zaa]
 refine zaj Tryz.call215 Tryz.func215 rfl (by kernel_rfl) (zav (by kernel_rfl)) ?_
 simp -implicitDefEqProofs only [go_sem, Tryz.results215]
 refine callF (zf5 a.name) (by simp -implicitDefEqProofs only [go_sem]) ?_
 simp -implicitDefEqProofs only [go_sem]
 refine ⟨fun h => ?_, fun h => ?_⟩
 ·rw [hN, if_pos h]
  congr 1
  rw [Bool.eq_iff_iff]; simp
 ·rw [h] at hN
  simp only [Bool.false_eq_true, if_false] at hN
  refine callF (zmq a.name) (by simp -implicitDefEqProofs only [go_sem]) ?_
  simp -implicitDefEqProofs only [go_sem]
  by_cases hy : zdq a.name = true
  ·by_cases h4 : a.args.length <= 4
   ·rw [hy, show decide (a.args.length <= 4) = true by simpa using h4, Bool.true_and, Bool.true_and] at hN
    refine ⟨fun _ => ⟨fun h => by simp at h; omega, fun _ => ?_⟩, fun h => by simp [hy] at h⟩
    refine zae (fun k : Nat => hd [(1, .one (.bx 1 0)), (3, vI k)] [(1, [.t (.str a.name), .t (tmS a.args)])] []) (fun k => k <= a.args.length /\ a.names = (a.args.drop k).all Tm.names) (fun k => a.args.length - k) 0 (zac ?_) ?_ ?_
    ·simp -implicitDefEqProofs only [go_sem]
    ·exact ⟨by simp, hN⟩
    ·intro k ⟨hk, hr⟩
     by_cases hlt : k < a.args.length
     ·rw [List.drop_eq_getElem_cons hlt, List.all_cons] at hr
      simp -implicitDefEqProofs only [go_sem, zad, hlt, zaa]
      refine callF (H a.args[k] (List.getElem_mem hlt)) (by simp -implicitDefEqProofs only [go_sem, zaa]) ?_
      simp -implicitDefEqProofs only [go_sem, zaa]
      refine ⟨fun h => ?_, fun h => ⟨k + 1, ⟨hlt, ?_⟩, by omega, zac (by simp -implicitDefEqProofs only [go_sem]; rw [zap (by omega)])⟩⟩
      ·rw [hr, show a.args[k].names = false by simpa using h]; rfl
      ·rw [hr, show a.args[k].names = true by simpa using h]; rfl
     ·simp -implicitDefEqProofs only [go_sem, hlt]
      rw [hr, List.drop_of_length_le (by omega)]; rfl
   ·refine ⟨fun _ => ⟨fun _ => ?_, fun h => by simp at h; omega⟩, fun h => by simp [hy] at h⟩
    rw [hN, show decide (a.args.length <= 4) = false by simpa using h4, Bool.and_false]; rfl
  ·have hy' : zdq a.name = false := by simpa using hy
   refine ⟨fun h => by simp [hy'] at h, fun _ => ?_⟩
   rw [hN, hy']; rfl
theorem zki : ∀ a : Tm, FC Tryz.prog 215 [tmD a] [bD a.names] := zbp fun n xs ih => zxl (.mk n xs) ih
theorem zoq (a : Tm) (hs : a.wt <= 1099511627776) : FC Tryz.prog 177 [tmD a] [bD a.good] := by
 simp only [tmD, zaa]
 refine zaj Tryz.call177 Tryz.func177 rfl (by kernel_rfl) (zav (by kernel_rfl)) ?_
 simp -implicitDefEqProofs only [go_sem, Tryz.results177]
 refine callF (zu9 a hs) (by simp -implicitDefEqProofs only [go_sem, zaa]) ?_
 simp -implicitDefEqProofs only [go_sem, zaa]
 refine ⟨fun h => ?_, fun h => ?_⟩
 ·refine callF (zki a) (by simp -implicitDefEqProofs only [go_sem, zaa]) ?_
  simp -implicitDefEqProofs only [go_sem, zaa]
  rw [Tm.good, h, Bool.true_and]
 ·rw [Tm.good, h, Bool.false_and]
theorem zvx (a : Tm) (hs : a.wt <= 1099511627776) : FC Tryz.prog 181 [tmD a] [bD a.atomOk] := by
 have hN : a.atomOk = if (a.name == [61]) = true then decide (a.args.length = 2) && zg6 a && a.args.all Tm.names else zdq a.name && a.good := rfl
 simp only [tmD, zaa]
 refine zaj Tryz.call181 Tryz.func181 rfl (by kernel_rfl) (zav (by kernel_rfl)) ?_
 simp -implicitDefEqProofs only [go_sem, Tryz.results181]
 refine ⟨fun h => ?_, fun h => ?_⟩
 ·rw [if_pos h] at hN
  by_cases h2 : a.args.length = 2
  ·have k0 : 0 < a.args.length := by omega
   have k1 : 1 < a.args.length := by omega
   have e2 : ((a.args.length : Int) == 2) = true := by simp [h2]
   have l0 : (0 : Int) < a.args.length := by omega
   have l1 : (1 : Int) < a.args.length := by omega
   rw [qa1 h2, show decide (a.args.length = 2) = true by simp [h2]] at hN
   simp only [Bool.true_and] at hN
   simp only [e2, qbn, zf2, ql3, zex, and_true]
   refine callF (zu9 a hs) (by simp -implicitDefEqProofs only [go_sem, zaa, l0, zad, k0]) ?_
   simp -implicitDefEqProofs only [go_sem, zaa, l0, zad, k0]
   refine ⟨fun h3 => ?_, fun h3 => ?_⟩
   ·refine callF (zki a.args[0]) (by simp -implicitDefEqProofs only [go_sem, zaa, l1, zad, k1]) ?_
    simp -implicitDefEqProofs only [go_sem, zaa, l1, zad, k1]
    refine ⟨fun h4 => ?_, fun h4 => ?_⟩
    ·refine callF (zki a.args[1]) (by simp -implicitDefEqProofs only [go_sem, zaa]) ?_
     simp -implicitDefEqProofs only [go_sem, zaa]
     rw [hN, h3, h4]; rfl
    ·rw [hN, h3, h4]; rfl
   ·rw [hN, h3]; rfl
  ·have e2 : ((a.args.length : Int) == 2) = false := by simp; omega
   simp only [e2, qbn, qlp, zf2, zex, and_true, true_and, qm3]
   rw [hN, show decide (a.args.length = 2) = false by simpa using h2]; rfl
 ·rw [h] at hN
  simp only [Bool.false_eq_true, if_false] at hN
  refine callF (zmq a.name) (by simp -implicitDefEqProofs only [go_sem]) ?_
  simp -implicitDefEqProofs only [go_sem]
  refine ⟨fun h3 => ?_, fun h3 => ?_⟩
  ·refine callF (zoq a hs) (by simp -implicitDefEqProofs only [go_sem, zaa]) ?_
   simp -implicitDefEqProofs only [go_sem, zaa]
   rw [hN, h3, Bool.true_and]
  ·rw [hN, h3, Bool.false_and]
theorem zea (a : Tm) : FC Tryz.prog 244 [tmD a] [bD a.none] := by
 simp only [tmD, zaa]
 refine zaj Tryz.call244 Tryz.func244 rfl (by kernel_rfl) (zav (by kernel_rfl)) ?_
 simp -implicitDefEqProofs only [go_sem, Tryz.results244]
 unfold Tm.none
 refine ⟨fun h => ?_, fun h => ?_⟩
 ·rw [h, Bool.true_and]
  congr 1
  rw [Bool.eq_iff_iff]; simp
 ·rw [h]; rfl
def Fm.here (f : Fm) : Bool :=
 if (f.op == 1 || f.op == 2) = true then decide (f.parts.length = 0) && f.atom.none && (f.var == [])
 else if (f.op == 3) = true then decide (f.parts.length = 0) && f.atom.atomOk && (f.var == [])
 else if (f.op == 4) = true then decide (f.parts.length = 1) && f.atom.none && (f.var == [])
 else if znp f.op = true then decide (f.parts.length = 2) && f.atom.none && (f.var == [])
 else if isQ f.op = true then decide (f.parts.length = 1) && f.atom.none && za2 f.var
 else false
theorem zn5 (n m : Nat) : ((n : Int) == (m : Int)) = decide (n = m) := by
 rw [Bool.eq_iff_iff]; simp only [beq_iff_eq, decide_eq_true_eq]; omega
theorem ztz (n m : Nat) : ((n : Int) != (m : Int)) = !decide (n = m) := by
 rw [bne, zn5]
theorem zwf (o : Int) : o = 1 \/ o = 2 \/ o = 3 \/ o = 4 \/ o = 5 \/ o = 6 \/ o = 7 \/ o = 8 \/ o = 9 \/ (o ≠ 1 /\ o ≠ 2 /\ o ≠ 3 /\ o ≠ 4 /\ o ≠ 5 /\ o ≠ 6 /\ o ≠ 7 /\ o ≠ 8 /\ o ≠ 9) := by omega
set_option maxHeartbeats 4000000 in
theorem qg8 (f : Fm) (hs : f.wt <= 1099511627776) : FC Tryz.prog 200 [fmD f] [bD f.here] := by
 obtain ⟨o, a, v, ps⟩ := f
 have ha : a.wt <= 1099511627776 := Nat.le_trans (zik (.mk o a v ps)) hs
 have e0 : ((ps.length : Int) == 0) = decide (ps.length = 0) := zn5 _ 0
 have e1 : ((ps.length : Int) == 1) = decide (ps.length = 1) := zn5 _ 1
 have e2 : ((ps.length : Int) == 2) = decide (ps.length = 2) := zn5 _ 2
 rcases zwf o with rfl | rfl | rfl | rfl | rfl | rfl | rfl | rfl | rfl | ⟨n1, n2, n3, n4, n5, n6, n7, n8, n9⟩
 ·have hN : Fm.here (.mk 1 a v ps) = (decide (ps.length = 0) && a.none && (v == [])) := rfl
  simp only [fmD, zab, Fm.op, Fm.atom, Fm.var, Fm.parts]
  refine zaj Tryz.call200 Tryz.func200 rfl (by kernel_rfl) (zav (by kernel_rfl)) ?_
  simp -implicitDefEqProofs only [go_sem, Tryz.results200]
  simp only [e0]
  refine ⟨fun h => ?_, fun h => ?_⟩
  ·refine callF (zea a) (by simp -implicitDefEqProofs only [go_sem, zaa]) ?_
   simp -implicitDefEqProofs only [go_sem, zaa]
   refine ⟨fun h1 => ?_, fun h1 => ?_⟩
   ·rw [hN, h, h1]; rfl
   ·rw [hN, h, h1]; rfl
  ·rw [hN, h]; rfl
 ·have hN : Fm.here (.mk 2 a v ps) = (decide (ps.length = 0) && a.none && (v == [])) := rfl
  simp only [fmD, zab, Fm.op, Fm.atom, Fm.var, Fm.parts]
  refine zaj Tryz.call200 Tryz.func200 rfl (by kernel_rfl) (zav (by kernel_rfl)) ?_
  simp -implicitDefEqProofs only [go_sem, Tryz.results200]
  simp only [e0]
  refine ⟨fun h => ?_, fun h => ?_⟩
  ·refine callF (zea a) (by simp -implicitDefEqProofs only [go_sem, zaa]) ?_
   simp -implicitDefEqProofs only [go_sem, zaa]
   refine ⟨fun h1 => ?_, fun h1 => ?_⟩
   ·rw [hN, h, h1]; rfl
   ·rw [hN, h, h1]; rfl
  ·rw [hN, h]; rfl
 ·have hN : Fm.here (.mk 3 a v ps) = (decide (ps.length = 0) && a.atomOk && (v == [])) := rfl
  simp only [fmD, zab, Fm.op, Fm.atom, Fm.var, Fm.parts]
  refine zaj Tryz.call200 Tryz.func200 rfl (by kernel_rfl) (zav (by kernel_rfl)) ?_
  simp -implicitDefEqProofs only [go_sem, Tryz.results200]
  simp only [e0]
  refine ⟨fun h => ?_, fun h => ?_⟩
  ·refine callF (zvx a ha) (by simp -implicitDefEqProofs only [go_sem, zaa]) ?_
   simp -implicitDefEqProofs only [go_sem, zaa]
   refine ⟨fun h1 => ?_, fun h1 => ?_⟩
   ·rw [hN, h, h1]; rfl
   ·rw [hN, h, h1]; rfl
  ·rw [hN, h]; rfl
 ·have hN : Fm.here (.mk 4 a v ps) = (decide (ps.length = 1) && a.none && (v == [])) := rfl
  simp only [fmD, zab, Fm.op, Fm.atom, Fm.var, Fm.parts]
  refine zaj Tryz.call200 Tryz.func200 rfl (by kernel_rfl) (zav (by kernel_rfl)) ?_
  simp -implicitDefEqProofs only [go_sem, Tryz.results200]
  simp only [e1]
  refine ⟨fun h => ?_, fun h => ?_⟩
  ·refine callF (zea a) (by simp -implicitDefEqProofs only [go_sem, zaa]) ?_
   simp -implicitDefEqProofs only [go_sem, zaa]
   refine ⟨fun h1 => ?_, fun h1 => ?_⟩
   ·rw [hN, h, h1]; rfl
   ·rw [hN, h, h1]; rfl
  ·rw [hN, h]; rfl
 ·have hN : Fm.here (.mk 5 a v ps) = (decide (ps.length = 2) && a.none && (v == [])) := rfl
  simp only [fmD, zab, Fm.op, Fm.atom, Fm.var, Fm.parts]
  refine zaj Tryz.call200 Tryz.func200 rfl (by kernel_rfl) (zav (by kernel_rfl)) ?_
  simp -implicitDefEqProofs only [go_sem, Tryz.results200]
  simp only [e2]
  refine ⟨fun h => ?_, fun h => ?_⟩
  ·refine callF (zea a) (by simp -implicitDefEqProofs only [go_sem, zaa]) ?_
   simp -implicitDefEqProofs only [go_sem, zaa]
   refine ⟨fun h1 => ?_, fun h1 => ?_⟩
   ·rw [hN, h, h1]; rfl
   ·rw [hN, h, h1]; rfl
  ·rw [hN, h]; rfl
 ·have hN : Fm.here (.mk 6 a v ps) = (decide (ps.length = 2) && a.none && (v == [])) := rfl
  simp only [fmD, zab, Fm.op, Fm.atom, Fm.var, Fm.parts]
  refine zaj Tryz.call200 Tryz.func200 rfl (by kernel_rfl) (zav (by kernel_rfl)) ?_
  simp -implicitDefEqProofs only [go_sem, Tryz.results200]
  simp only [e2]
  refine ⟨fun h => ?_, fun h => ?_⟩
  ·refine callF (zea a) (by simp -implicitDefEqProofs only [go_sem, zaa]) ?_
   simp -implicitDefEqProofs only [go_sem, zaa]
   refine ⟨fun h1 => ?_, fun h1 => ?_⟩
   ·rw [hN, h, h1]; rfl
   ·rw [hN, h, h1]; rfl
  ·rw [hN, h]; rfl
 ·have hN : Fm.here (.mk 7 a v ps) = (decide (ps.length = 2) && a.none && (v == [])) := rfl
  simp only [fmD, zab, Fm.op, Fm.atom, Fm.var, Fm.parts]
  refine zaj Tryz.call200 Tryz.func200 rfl (by kernel_rfl) (zav (by kernel_rfl)) ?_
  simp -implicitDefEqProofs only [go_sem, Tryz.results200]
  simp only [e2]
  refine ⟨fun h => ?_, fun h => ?_⟩
  ·refine callF (zea a) (by simp -implicitDefEqProofs only [go_sem, zaa]) ?_
   simp -implicitDefEqProofs only [go_sem, zaa]
   refine ⟨fun h1 => ?_, fun h1 => ?_⟩
   ·rw [hN, h, h1]; rfl
   ·rw [hN, h, h1]; rfl
  ·rw [hN, h]; rfl
 ·have hN : Fm.here (.mk 8 a v ps) = (decide (ps.length = 1) && a.none && za2 v) := rfl
  simp only [fmD, zab, Fm.op, Fm.atom, Fm.var, Fm.parts]
  refine zaj Tryz.call200 Tryz.func200 rfl (by kernel_rfl) (zav (by kernel_rfl)) ?_
  simp -implicitDefEqProofs only [go_sem, Tryz.results200]
  simp only [e1]
  refine ⟨fun h => ?_, fun h => ?_⟩
  ·refine callF (zea a) (by simp -implicitDefEqProofs only [go_sem, zaa]) ?_
   simp -implicitDefEqProofs only [go_sem, zaa]
   refine ⟨fun h1 => ?_, fun h1 => ?_⟩
   ·refine callF (zf5 v) (by simp -implicitDefEqProofs only [go_sem]) ?_
    simp -implicitDefEqProofs only [go_sem]
    rw [hN, h, h1]; rfl
   ·rw [hN, h, h1]; rfl
  ·rw [hN, h]; rfl
 ·have hN : Fm.here (.mk 9 a v ps) = (decide (ps.length = 1) && a.none && za2 v) := rfl
  simp only [fmD, zab, Fm.op, Fm.atom, Fm.var, Fm.parts]
  refine zaj Tryz.call200 Tryz.func200 rfl (by kernel_rfl) (zav (by kernel_rfl)) ?_
  simp -implicitDefEqProofs only [go_sem, Tryz.results200]
  simp only [e1]
  refine ⟨fun h => ?_, fun h => ?_⟩
  ·refine callF (zea a) (by simp -implicitDefEqProofs only [go_sem, zaa]) ?_
   simp -implicitDefEqProofs only [go_sem, zaa]
   refine ⟨fun h1 => ?_, fun h1 => ?_⟩
   ·refine callF (zf5 v) (by simp -implicitDefEqProofs only [go_sem]) ?_
    simp -implicitDefEqProofs only [go_sem]
    rw [hN, h, h1]; rfl
   ·rw [hN, h, h1]; rfl
  ·rw [hN, h]; rfl
 ·have hN : Fm.here (.mk o a v ps) = false := by simp [Fm.here, znp, isQ, Fm.op, *]
  have f1 : (o == 1) = false := by simpa using n1
  have f2 : (o == 2) = false := by simpa using n2
  have f3 : (o == 3) = false := by simpa using n3
  have f4 : (o == 4) = false := by simpa using n4
  have f5 : (o == 5) = false := by simpa using n5
  have f6 : (o == 6) = false := by simpa using n6
  have f7 : (o == 7) = false := by simpa using n7
  have f8 : (o == 8) = false := by simpa using n8
  have f9 : (o == 9) = false := by simpa using n9
  simp only [fmD, zab, Fm.op, Fm.atom, Fm.var, Fm.parts]
  refine zaj Tryz.call200 Tryz.func200 rfl (by kernel_rfl) (zav (by kernel_rfl)) ?_
  simp -implicitDefEqProofs only [go_sem, Tryz.results200, f1, f2, f3, f4, f5, f6, f7, f8, f9]
  rw [hN]
def Fm.forms : Fm -> Bool := Fm.fold fun o a v ps rs => (Fm.mk o a v ps).here && rs.all id
theorem Fm.forms_eq (f : Fm) : f.forms = (f.here && f.parts.all Fm.forms) := by
 unfold Fm.forms
 rw [Fm.fold_eq]
 simp only [List.all_map, Fm.eta]
 rfl
theorem zx9 (a : Fm) (hs : a.wt <= 1099511627776) (H : ∀ x ∈ a.parts, FC Tryz.prog 144 [fmD x] [bD x.forms]) : FC Tryz.prog 144 [fmD a] [bD a.forms] := by
 have hl : a.parts.length <= 9223372036854775807 := by rw [Fm.wt_eq] at hs; omega
 have hN := a.forms_eq
 simp only [fmD, zab]
 refine zaj Tryz.call144 Tryz.func144 rfl (by kernel_rfl) (zav (by kernel_rfl)) ?_
 simp -implicitDefEqProofs only [go_sem, Tryz.results144]
 refine callF (qg8 a hs) (by simp -implicitDefEqProofs only [go_sem, zab]) ?_
 simp -implicitDefEqProofs only [go_sem, zab]
 refine ⟨fun h => ?_, fun h => ?_⟩
 ·rw [hN, show a.here = false by simpa using h]; rfl
 ·rw [show a.here = true by simpa using h, Bool.true_and] at hN
  refine zae (fun k : Nat => hd [(1, .one (.bx 1 0)), (3, vI k)] [(1, [.t (.int .i64 a.op), .t (.str a.atom.name), .t (tmS a.atom.args), .t (.str a.var), .t (fmS a.parts)])] []) (fun k => k <= a.parts.length /\ a.forms = (a.parts.drop k).all Fm.forms) (fun k => a.parts.length - k) 0 (zac ?_) ?_ ?_
  ·simp -implicitDefEqProofs only [go_sem]
  ·exact ⟨by simp, hN⟩
  ·intro k ⟨hk, hr⟩
   by_cases hlt : k < a.parts.length
   ·rw [List.drop_eq_getElem_cons hlt, List.all_cons] at hr
    simp -implicitDefEqProofs only [go_sem, zad, hlt, zab]
    refine callF (H a.parts[k] (List.getElem_mem hlt)) (by simp -implicitDefEqProofs only [go_sem, zab]) ?_
    simp -implicitDefEqProofs only [go_sem, zab]
    refine ⟨fun h => ?_, fun h => ⟨k + 1, ⟨hlt, ?_⟩, by omega, zac (by simp -implicitDefEqProofs only [go_sem]; rw [zap (by omega)])⟩⟩
    ·rw [hr, show a.parts[k].forms = false by simpa using h]; rfl
    ·rw [hr, show a.parts[k].forms = true by simpa using h]; rfl
   ·simp -implicitDefEqProofs only [go_sem, hlt]
    rw [hr, List.drop_of_length_le (by omega)]; rfl
theorem qee : ∀ a : Fm, a.wt <= 1099511627776 -> FC Tryz.prog 144 [fmD a] [bD a.forms] :=
 zbr fun o a v xs ih hs => zx9 (.mk o a v xs) hs fun x hx => ih x hx (Nat.le_trans (zby (a := .mk o a v xs) hx) hs)
def Fm.good (a : Fm) : Bool := decide (a.nodes <= 40) && a.forms
theorem zt8 (a : Fm) (hs : a.wt <= 1099511627776) : FC Tryz.prog 85 [fmD a] [bD a.good] := by
 simp only [fmD, zab]
 refine zaj Tryz.call85 Tryz.func85 rfl (by kernel_rfl) (zav (by kernel_rfl)) ?_
 simp -implicitDefEqProofs only [go_sem, Tryz.results85]
 refine callF (qib a hs 40 (by omega) (by omega)) (by simp -implicitDefEqProofs only [go_sem, zab]) ?_
 simp -implicitDefEqProofs only [go_sem, zab]
 rw [show decide (zfh a 40 <= 40) = decide (a.nodes <= 40) from qip a 40]
 refine ⟨fun h => ?_, fun h => ?_⟩
 ·refine callF (qee a hs) (by simp -implicitDefEqProofs only [go_sem, zab]) ?_
  simp -implicitDefEqProofs only [go_sem, zab]
  rw [Fm.good, h, Bool.true_and]
 ·rw [Fm.good, h, Bool.false_and]
end Go.Proofs.YtbccfiillleimaaGreat
namespace Go.Proofs.YtbccfiillleimaaGreat
set_option linter.unusedSimpArgs false
set_option linter.unusedVariables false
set_option linter.unusedSectionVars false
set_option maxRecDepth 4000
open Go.RowKit
theorem zuy : ∀ a : Tm, a.wt <= 1099511627776 -> ∀ ys : List Str, ys.length + (voS a).length <= 1073741824 -> GC Tryz.prog 161 [(true, .one (zbq ys)), (false, tmD a)] [.one (zbq (za5 ys (voS a)))] :=
 zbp fun n xs ih hw ys hs => qem (.mk n xs) (fun x hx ys hs => ih x hx (Nat.le_trans (znw (a := .mk n xs) hx) hw) ys hs) ys hs (by have := Tm.wt_eq (.mk n xs); omega)
theorem zwi (a : Tm) (hw : a.wt <= 1099511627776) (hs : (voS a).length <= 1073741824) : FC Tryz.prog 182 [tmD a] [.one (zbq (za5 [] (voS a)))] := by
 have HC := zuy a hw [] (by simpa using hs)
 simp only [tmD, zaa] at HC ⊢
 refine zcv Tryz.call182 Tryz.func182 rfl (by kernel_rfl) (zav (by kernel_rfl)) ?_
 simp -implicitDefEqProofs only [go_sem, Tryz.results182]
 refine zbd (by simp -implicitDefEqProofs only [go_sem]) ?_
 simp -implicitDefEqProofs only [go_sem]
 refine zc5 [] [3, 4] [] (HC) (by simp -implicitDefEqProofs only [go_sem]) (by simp -implicitDefEqProofs only [go_sem]) (by simp -implicitDefEqProofs only [go_sem]) (by simp -implicitDefEqProofs only [go_sem]) ?_
 simp -implicitDefEqProofs only [go_sem]
theorem znx {s : Str} (h : za2 s = true) : zkn (s.getD 0 0) = true /\ 0 < s.length := by
 unfold za2 at h
 rw [Bool.and_eq_true] at h
 cases s with
 | nil => exact absurd h.2 (by decide)
 | cons b s =>
  have := zvz (s := b :: s) (by simp)
  rw [h.1] at this
  have := (Bool.and_eq_true _ _).mp this.symm
  exact ⟨this.1, by simp⟩
theorem up_low {b : UInt8} (h : zgc b = true) : zkn b = false := by
 unfold zgc zkn at *
 simp only [Bool.and_eq_true, decide_eq_true_eq, Bool.and_eq_false_iff, decide_eq_false_iff_not] at *
 omega
theorem zkv {s : Str} (h : zdq s = true) : zkn (s.getD 0 0) = false /\ 0 < s.length := by
 unfold zdq at h
 simp only [Bool.and_eq_true] at h
 cases s with
 | nil => exact absurd h.1.2 (by decide)
 | cons b s =>
  have := zqa (s := b :: s) (by simp)
  rw [h.1.1] at this
  have := (Bool.and_eq_true _ _).mp this.symm
  exact ⟨up_low this.1, by simp⟩
theorem zgn : ∀ a : Tm, a.names = true -> voI a = voS a /\ a.ne = true := zbp fun n xs ih h => by
 rw [Tm.names_eq] at h
 rw [zuv, zqx, Tm.ne_eq']
 change (if za2 n = true then decide (xs.length = 0) else zdq n && decide (xs.length <= 4) && xs.all Tm.names) = true at h
 change (if (decide (xs.length = 0) && zkn (n.getD 0 0)) = true then [n] else (xs.map voI).flatten) = (if za2 n = true then [n] else (xs.map voS).flatten) /\ ((!decide (xs.length = 0) || decide (0 < n.length)) && xs.all Tm.ne) = true
 change ∀ x ∈ xs, _ at ih
 by_cases hv : za2 n = true
 ·rw [if_pos hv] at h ⊢
  obtain ⟨h1, h2⟩ := znx hv
  have h : xs.length = 0 := of_decide_eq_true h
  have hx : xs = [] := List.length_eq_zero_iff.1 h
  subst hx
  rw [h1]
  exact ⟨rfl, by simp [h2]⟩
 ·rw [if_neg hv] at h ⊢
  simp only [Bool.and_eq_true] at h
  obtain ⟨h1, h2⟩ := zkv h.1.1
  rw [h1, Bool.and_false, if_neg (by simp)]
  have hI := fun x hx => ih x hx (List.all_eq_true.1 h.2 x hx)
  refine ⟨by rw [List.map_congr_left fun x hx => (hI x hx).1], ?_⟩
  rw [Bool.and_eq_true]
  exact ⟨by simp [h2], List.all_eq_true.2 fun x hx => (hI x hx).2⟩
theorem qmw {a : Tm} (h : a.atomOk = true) : voI a = voS a /\ a.ne = true := by
 unfold Tm.atomOk at h
 split at h
 ·rename_i he
  have he : a.name = [61] := by simpa using he
  simp only [Bool.and_eq_true, decide_eq_true_eq] at h
  rw [zuv, zqx, Tm.ne_eq', he]
  have hI := fun x hx => zgn x (List.all_eq_true.1 h.2 x hx)
  rw [show zkn (([61] : Str).getD 0 0) = false by decide, show za2 [61] = false by decide, Bool.and_false, if_neg (by simp), if_neg (by simp)]
  refine ⟨by rw [List.map_congr_left fun x hx => (hI x hx).1], ?_⟩
  rw [Bool.and_eq_true]
  exact ⟨by simp, List.all_eq_true.2 fun x hx => (hI x hx).2⟩
 ·simp only [Bool.and_eq_true] at h
  have := h.2
  unfold Tm.good at this
  rw [Bool.and_eq_true] at this
  exact zgn a this.2
theorem zer {f : Fm} (h : f.here = true) (h3 : f.op = 3) : f.atom.atomOk = true /\ f.parts = [] := by
 unfold Fm.here at h
 rw [h3] at h
 simp only [show ((3 : Int) == 1 || (3 : Int) == 2) = false by decide, show ((3 : Int) == 3) = true by decide, if_true, Bool.false_eq_true, if_false, Bool.and_eq_true, decide_eq_true_eq, List.length_eq_zero_iff] at h
 exact ⟨h.1.2, h.1.1⟩
def vf : Fm -> List Str -> List Str := Fm.fold fun o a v _ rs b => if (o == 3) = true then (za5 [] (voS a)).filter (fun s => !b.contains s) else (rs.map fun r => r (if isQ o = true then b ++ [v] else b)).flatten
theorem zye (f : Fm) (b : List Str) : vf f b = if (f.op == 3) = true then (za5 [] (voS f.atom)).filter (fun s => !b.contains s) else (f.parts.map fun x => vf x (if isQ f.op = true then b ++ [f.var] else b)).flatten := by
 unfold vf
 rw [Fm.fold_eq]
 simp only [List.map_map]
 rfl
theorem zod : ∀ a : Tm, (voS a).length <= 1 + a.wt := zbp fun n xs ih => by
 rw [zqx, Tm.wt_eq]
 change (if za2 n = true then [n] else (xs.map voS).flatten).length <= 1 + (n.length + xs.length + (xs.map Tm.wt).sum)
 split
 ·simp
 ·have : ((xs.map voS).flatten).length <= xs.length + (xs.map Tm.wt).sum := by
   revert ih
   induction xs with
   | nil => simp
   | cons x xs ih2 =>
    intro ih
    have h1 := ih x (by simp)
    have h2 := ih2 fun y hy => ih y (by simp [hy])
    simp only [List.map_cons, List.flatten_cons, List.length_append, List.sum_cons, List.length_cons]
    omega
  omega
theorem qi5 : ∀ (f : Fm) (b : List Str), (vf f b).length <= f.nodes + f.wt := zbr fun o a v ps ih b => by
 rw [zye, Fm.nodes_eq, Fm.wt_eq]
 change (if (o == 3) = true then (za5 [] (voS a)).filter (fun s => !b.contains s) else (ps.map fun x => vf x (if isQ o = true then b ++ [v] else b)).flatten).length <= 1 + (ps.map Fm.nodes).sum + (a.wt + v.length + ps.length + (ps.map Fm.wt).sum)
 split
 ·have h1 := List.length_filter_le (fun s => !b.contains s) (za5 [] (voS a))
  have h2 := zcm (voS a) []
  have h3 := zod a
  simp only [List.length_nil] at h2
  omega
 ·have : ∀ b, ((ps.map fun x => vf x b).flatten).length <= (ps.map Fm.nodes).sum + (ps.map Fm.wt).sum := fun b => by
   revert ih
   induction ps with
   | nil => simp
   | cons x xs ih2 =>
    intro ih
    have h1 := ih x (by simp) b
    have h2 := ih2 fun y hy => ih y (by simp [hy])
    simp only [List.map_cons, List.flatten_cons, List.length_append, List.sum_cons]
    omega
  have := this (if isQ o = true then b ++ [v] else b)
  omega
def zgz (b l : List Str) (s : Str) : List Str := if (!b.contains s && !l.contains s) = true then l ++ [s] else l
theorem zje (b : List Str) : ∀ (ss l : List Str), ss.foldl (zgz b) l = zc3 l (ss.filter fun s => !b.contains s)
 | [], l => rfl
 | s :: ss, l => by
  rw [List.foldl_cons, zje b ss, List.filter_cons]
  unfold zgz
  by_cases h : b.contains s = true
  ·rw [h]; simp
  ·have h : b.contains s = false := by simpa using h
   rw [h, if_pos (show (!false) = true from rfl)]
   show _ = zc3 (zta l s) _
   congr 1
   unfold zta
   cases l.contains s <;> rfl
theorem qbt {b l : List Str} {s : Str} (h : (!b.contains s) = true) (h2 : (!l.contains s) = true) : zgz b l s = l ++ [s] := by unfold zgz; rw [h, h2]; rfl
theorem qgo {b l : List Str} {s : Str} (h2 : (!l.contains s) = false) : zgz b l s = l := by unfold zgz; rw [h2, Bool.and_false]; rfl
theorem qnj {b l : List Str} {s : Str} (h : (!b.contains s) = false) : zgz b l s = l := by unfold zgz; rw [h, Bool.false_and]; rfl
theorem qd7 (b l : List Str) (s : Str) : (zgz b l s).length <= l.length + 1 := by unfold zgz; split <;> simp
theorem zml (b : List Str) : ∀ (ss l : List Str), (ss.foldl (zgz b) l).length <= l.length + ss.length
 | [], l => by simp
 | s :: ss, l => by have := zml b ss (zgz b l s); have := qd7 b l s; simp only [List.foldl_cons, List.length_cons] at *; omega
theorem zfw {α β : Type} (g : β -> α -> β) (xs : List α) (z : β) (k : Nat) (h : k < xs.length) : (xs.take (k + 1)).foldl g z = g ((xs.take k).foldl g z) xs[k] := by
 rw [List.take_succ_eq_append_getElem h, List.foldl_append]; rfl
set_option maxHeartbeats 2000000 in
theorem qac (f : Fm) (hf : f.forms = true) (hw : f.wt <= 1048576) (H : ∀ x ∈ f.parts, ∀ ys b : List Str, ys.length + (vf x b).length <= 1073741824 -> b.length + x.nodes <= 1073741824 -> GC Tryz.prog 185 [(true, .one (zbq ys)), (false, fmD x), (false, .one (zbq b))] [.one (zbq (zc3 ys (vf x b)))])
  (ys b : List Str) (hs : ys.length + (vf f b).length <= 1073741824) (hb : b.length + f.nodes <= 1073741824) : GC Tryz.prog 185 [(true, .one (zbq ys)), (false, fmD f), (false, .one (zbq b))] [.one (zbq (zc3 ys (vf f b)))] := by
 have hv := zye f b
 have hN := f.nodes_eq
 have hW := f.wt_eq
 rw [Fm.forms_eq, Bool.and_eq_true] at hf
 simp only [fmD, zab]
 refine zql Tryz.call185 Tryz.func185 rfl (by kernel_rfl) (by simp only [List.length_cons, List.length_nil, Tryz.ntmps185]; omega) (by simp [zbm, T.isPin]) ?_
 simp -implicitDefEqProofs only [go_sem, Tryz.results185]
 by_cases h3 : f.op = 3
 ·obtain ⟨ha, hp⟩ := zer hf.1 h3
  obtain ⟨ev, ene⟩ := qmw ha
  have e3 : (f.op == 3) = true := by simp [h3]
  rw [if_pos e3] at hv
  have hvl := zod f.atom
  have HV := zj4 f.atom ene (by omega) (by rw [ev]; omega)
  rw [ev] at HV
  have hPl := zcm (voS f.atom) []
  generalize za5 [] (voS f.atom) = V at hv HV hPl
  rw [hv, <- zje b V ys]
  simp only [tmD, zaa] at HV
  simp -implicitDefEqProofs only [go_sem, e3]
  refine zkl (HV) (by simp -implicitDefEqProofs only [go_sem]) ?_
  simp -implicitDefEqProofs only [go_sem]
  refine zae (fun k : Nat => hd [(0, .one (.ow 0 0)), (2, .one (.rn (zbq b))), (16, .one (.rn (zbq V))), (17, vI V.length), (18, vI k)] [] [(0, ⟨true, 1, ((V.take k).foldl (zgz b) ys).map fun s => [.str s], 0, true⟩)]) (fun k => k <= V.length) (fun k => V.length - k) 0 (zac ?_) (Nat.zero_le _) ?_
  ·simp -implicitDefEqProofs only [go_sem]
   rfl
  ·intro k hk
   by_cases hlt : k < V.length
   ·have hL := zml b (V.take k) ys
    rw [List.length_take] at hL
    have hnx := zfw (zgz b) V ys k hlt
    simp only [List.length_nil] at hPl
    simp -implicitDefEqProofs only [go_sem, zad, hlt]
    refine callF (zbk b V[k]) (by simp -implicitDefEqProofs only [go_sem]) ?_
    simp -implicitDefEqProofs only [go_sem]
    refine ⟨fun h => ?_, fun h => ?_⟩
    ·refine callF (zbk ((V.take k).foldl (zgz b) ys) V[k]) (by simp -implicitDefEqProofs only [go_sem]) ?_
     simp -implicitDefEqProofs only [go_sem]
     have hy2 : ((V.take k).foldl (zgz b) ys).length <= 4294967295 := by omega
     refine ⟨fun h2 => ?_, fun h2 => ?_⟩
     ·refine zbd (by simp -implicitDefEqProofs only [go_sem]) ?_
      simp -implicitDefEqProofs only [go_sem]
      refine apD true (by simp -implicitDefEqProofs only [go_sem, hy2, ne_eq, List.length_map]) ?_
      simp -implicitDefEqProofs only [go_sem, hy2, ne_eq, List.length_map]
      refine ⟨k + 1, hlt, by omega, zac ?_⟩
      simp -implicitDefEqProofs only [go_sem]
      rw [zap (by omega), hnx, qbt h h2]
      exact ⟨rfl, by simp⟩
     ·refine ⟨k + 1, hlt, by omega, zac ?_⟩
      simp -implicitDefEqProofs only [go_sem]
      rw [zap (by omega), hnx, qgo h2]
      exact ⟨rfl, rfl⟩
    ·refine ⟨k + 1, hlt, by omega, zac ?_⟩
     simp -implicitDefEqProofs only [go_sem]
     rw [zap (by omega), hnx, qnj h]
     exact ⟨rfl, rfl⟩
   ·simp -implicitDefEqProofs only [go_sem, hlt]
    exact Or.inl (by rw [List.take_of_length_le (by omega)])
 ·have e3 : (f.op == 3) = false := by simp [h3]
  rw [e3, if_neg (by simp)] at hv
  simp -implicitDefEqProofs only [go_sem, e3]
  refine callF (zak f.op) (by simp -implicitDefEqProofs only [go_sem]) ?_
  simp -implicitDefEqProofs only [go_sem]
  refine ⟨fun h => ?_, fun h => ?_⟩
  ·rw [if_pos h] at hv
   rw [hv] at hs ⊢
   have hb1 : b.length <= 4294967295 := by omega
   refine drawn (by kernel_rfl) ?_
   simp -implicitDefEqProofs only [go_sem]
   refine zao (zx2 b (by omega)) (by simp -implicitDefEqProofs only [go_sem]) ?_
   simp -implicitDefEqProofs only [go_sem]
   refine zbj (by simp -implicitDefEqProofs only [go_sem]) ?_
   simp -implicitDefEqProofs only [go_sem]
   refine zfs true (by simp -implicitDefEqProofs only [go_sem, hb1, ne_eq, List.length_map]) ?_
   simp -implicitDefEqProofs only [go_sem, hb1, ne_eq, List.length_map]
   refine ⟨by kernel_rfl, ?_⟩
   refine zae (fun k : Nat => hd [(0, .one (.ow 0 0)), (2, .one (.rn (zbq (b ++ [f.var])))), (48, .one (.rn (fmS f.parts))), (49, vI f.parts.length), (50, vI k)] [] [(0, ⟨true, 1, (zc3 ys ((f.parts.take k).map fun x => vf x ((b ++ [f.var]))).flatten).map fun s => [.str s], 0, true⟩)]) (fun k => k <= f.parts.length) (fun k => f.parts.length - k) 0 (zac ?_) (Nat.zero_le _) ?_
   ·simp -implicitDefEqProofs only [go_sem]
    exact ⟨by simp, rfl⟩
   ·intro k hk
    by_cases hlt : k < f.parts.length
    ·have hq := zb4 (fun x => vf x ((b ++ [f.var]))) f.parts k hlt
     have hL := zd0 ((f.parts.take k).map fun x => vf x ((b ++ [f.var]))).flatten ys
     have hnx := za6 Fm.nodes f.parts _ (List.getElem_mem hlt)
     have HC := H f.parts[k] (List.getElem_mem hlt) (zc3 ys ((f.parts.take k).map fun x => vf x ((b ++ [f.var]))).flatten) ((b ++ [f.var])) (by omega) (by simp only [List.length_append, List.length_cons, List.length_nil]; omega)
     rw [<- zhn, <- zc4 (fun x => vf x ((b ++ [f.var]))) f.parts k hlt] at HC
     simp only [fmD, zab f.parts[k]] at HC
     simp -implicitDefEqProofs only [go_sem, zad, hlt, zab f.parts[k]]
     refine zc5 [2, 48, 49, 50] [54, 55, 56] [] (HC) (by simp -implicitDefEqProofs only [go_sem]) (by simp -implicitDefEqProofs only [go_sem]) (by simp -implicitDefEqProofs only [go_sem]) (by simp -implicitDefEqProofs only [go_sem]) ?_
     simp -implicitDefEqProofs only [go_sem]
     refine ⟨k + 1, hlt, by omega, zcz 0 1824 ?_⟩
     simp -implicitDefEqProofs only [go_sem]
     rw [zap (by omega)]
    ·simp -implicitDefEqProofs only [go_sem, hlt]
     exact Or.inl (by rw [List.take_of_length_le (by omega)])
  ·rw [h, if_neg (by simp)] at hv
   rw [hv] at hs ⊢
   refine zae (fun k : Nat => hd [(0, .one (.ow 0 0)), (2, .one (.rn (zbq b))), (48, .one (.rn (fmS f.parts))), (49, vI f.parts.length), (50, vI k)] [] [(0, ⟨true, 1, (zc3 ys ((f.parts.take k).map fun x => vf x (b)).flatten).map fun s => [.str s], 0, true⟩)]) (fun k => k <= f.parts.length) (fun k => f.parts.length - k) 0 (zac ?_) (Nat.zero_le _) ?_
   ·simp -implicitDefEqProofs only [go_sem]
    rfl
   ·intro k hk
    by_cases hlt : k < f.parts.length
    ·have hq := zb4 (fun x => vf x (b)) f.parts k hlt
     have hL := zd0 ((f.parts.take k).map fun x => vf x (b)).flatten ys
     have hnx := za6 Fm.nodes f.parts _ (List.getElem_mem hlt)
     have HC := H f.parts[k] (List.getElem_mem hlt) (zc3 ys ((f.parts.take k).map fun x => vf x (b)).flatten) (b) (by omega) (by omega)
     rw [<- zhn, <- zc4 (fun x => vf x (b)) f.parts k hlt] at HC
     simp only [fmD, zab f.parts[k]] at HC
     simp -implicitDefEqProofs only [go_sem, zad, hlt, zab f.parts[k]]
     refine zc5 [2, 48, 49, 50] [54, 55, 56] [] (HC) (by simp -implicitDefEqProofs only [go_sem]) (by simp -implicitDefEqProofs only [go_sem]) (by simp -implicitDefEqProofs only [go_sem]) (by simp -implicitDefEqProofs only [go_sem]) ?_
     simp -implicitDefEqProofs only [go_sem]
     refine ⟨k + 1, hlt, by omega, zcz 0 1824 ?_⟩
     simp -implicitDefEqProofs only [go_sem]
     rw [zap (by omega)]
    ·simp -implicitDefEqProofs only [go_sem, hlt]
     exact Or.inl (by rw [List.take_of_length_le (by omega)])
theorem qic : ∀ f : Fm, f.forms = true -> f.wt <= 1048576 -> ∀ ys b : List Str, ys.length + (vf f b).length <= 1073741824 -> b.length + f.nodes <= 1073741824 -> GC Tryz.prog 185 [(true, .one (zbq ys)), (false, fmD f), (false, .one (zbq b))] [.one (zbq (zc3 ys (vf f b)))] :=
 zbr fun o a v ps ih hf hw ys b hs hb => qac (.mk o a v ps) hf hw (fun x hx ys b hs hb => ih x hx (by rw [Fm.forms_eq, Bool.and_eq_true] at hf; exact List.all_eq_true.1 hf.2 x hx) (Nat.le_trans (zby (a := .mk o a v ps) hx) hw) ys b hs hb) ys b hs hb
theorem qkb (f : Fm) (hf : f.forms = true) (hw : f.wt <= 1048576) : FC Tryz.prog 117 [fmD f] [.one (zbq (za5 [] (vf f [])))] := by
 have h1 := qi5 f []
 have h2 := zd6 f
 have HC := qic f hf hw [] [] (by simp only [List.length_nil]; omega) (by simp only [List.length_nil]; omega)
 have HS := zpk (zc3 [] (vf f [])) (by have := zd0 (vf f []) []; simp only [List.length_nil] at this; omega)
 rw [zvi] at HS
 simp only [fmD, zab] at HC ⊢
 refine zcv Tryz.call117 Tryz.func117 rfl (by kernel_rfl) (zav (by kernel_rfl)) ?_
 simp -implicitDefEqProofs only [go_sem, Tryz.results117]
 refine zbd (by simp -implicitDefEqProofs only [go_sem]) ?_
 simp -implicitDefEqProofs only [go_sem]
 refine zc5 [] [4, 5] [] (HC) (by simp -implicitDefEqProofs only [go_sem]) (by simp -implicitDefEqProofs only [go_sem]) (by simp -implicitDefEqProofs only [go_sem]) (by simp -implicitDefEqProofs only [go_sem]) ?_
 simp -implicitDefEqProofs only [go_sem]
 refine qj7 (HS) (by simp -implicitDefEqProofs only [go_sem, zaz]) (by simp -implicitDefEqProofs only [go_sem, zaz]) rfl ?_
 simp -implicitDefEqProofs only [go_sem, zaz]
def zio (b l : List Str) (s : Str) : List Str := if (!b.contains s) = true then zwr l s else l
theorem zja (b : List Str) : ∀ (ss l : List Str), ss.foldl (zio b) l = za5 l (ss.filter fun s => !b.contains s)
 | [], l => rfl
 | s :: ss, l => by
  rw [List.foldl_cons, zja b ss, List.filter_cons]
  unfold zio
  by_cases h : b.contains s = true
  ·rw [h]; simp
  ·have h : b.contains s = false := by simpa using h
   rw [h, if_pos (show (!false) = true from rfl), if_pos (show (!false) = true from rfl)]
   rfl
theorem zzh (b l : List Str) (s : Str) : (zio b l s).length <= l.length + 1 := by
 unfold zio
 split
 ·exact zvo l s
 ·omega
theorem zms (b : List Str) : ∀ (ss l : List Str), (ss.foldl (zio b) l).length <= l.length + ss.length
 | [], l => by simp
 | s :: ss, l => by have := zms b ss (zio b l s); have := zzh b l s; simp only [List.foldl_cons, List.length_cons] at *; omega
theorem qce {b l : List Str} {s : Str} (h : (!b.contains s) = true) : zio b l s = zwr l s := if_pos h
theorem qma {b l : List Str} {s : Str} (h : (!b.contains s) = false) : zio b l s = l := by unfold zio; rw [h]; rfl
set_option maxHeartbeats 2000000 in
theorem zzs (f : Fm) (hf : f.forms = true) (hw : f.wt <= 1048576) (H : ∀ x ∈ f.parts, ∀ ys b : List Str, ys.length + (vf x b).length <= 1073741824 -> b.length + x.nodes <= 1073741824 -> GC Tryz.prog 199 [(true, .one (zbq ys)), (false, fmD x), (false, .one (zbq b))] [.one (zbq (za5 ys (vf x b)))])
  (ys b : List Str) (hs : ys.length + (vf f b).length <= 1073741824) (hb : b.length + f.nodes <= 1073741824) : GC Tryz.prog 199 [(true, .one (zbq ys)), (false, fmD f), (false, .one (zbq b))] [.one (zbq (za5 ys (vf f b)))] := by
 have hv := zye f b
 have hN := f.nodes_eq
 have hW := f.wt_eq
 rw [Fm.forms_eq, Bool.and_eq_true] at hf
 simp only [fmD, zab]
 refine zql Tryz.call199 Tryz.func199 rfl (by kernel_rfl) (by simp only [List.length_cons, List.length_nil, Tryz.ntmps199]; omega) (by simp [zbm, T.isPin]) ?_
 simp -implicitDefEqProofs only [go_sem, Tryz.results199]
 by_cases h3 : f.op = 3
 ·obtain ⟨ha, hp⟩ := zer hf.1 h3
  have e3 : (f.op == 3) = true := by simp [h3]
  have e8 : (f.op == 8) = false := by simp [h3]
  have e9 : (f.op == 9) = false := by simp [h3]
  rw [if_pos e3] at hv
  have hvl := zod f.atom
  have HV := zwi f.atom (by omega) (by omega)
  have hPl := zcm (voS f.atom) []
  generalize za5 [] (voS f.atom) = V at hv HV hPl
  simp only [List.length_nil] at hPl
  rw [hv, <- zja b V ys]
  simp only [tmD, zaa] at HV
  simp -implicitDefEqProofs only [go_sem, e3]
  refine zkl (HV) (by simp -implicitDefEqProofs only [go_sem]) ?_
  simp -implicitDefEqProofs only [go_sem]
  refine zae (fun k : Nat => hd [(0, .one (.ow 0 0)), (2, .one (.rn (zbq b))), (4, .one (.bx 4 0)), (7, .one (.rn (zbq V))), (8, vI k)] [(4, [.t (.int .i64 f.op), .t (.str f.atom.name), .rn (tmS f.atom.args), .t (.str f.var), .rn (fmS f.parts)])] [(0, ⟨true, 1, ((V.take k).foldl (zio b) ys).map fun s => [.str s], 0, true⟩)]) (fun k => k <= V.length) (fun k => V.length - k) 0 (zac ?_) (Nat.zero_le _) ?_
  ·simp -implicitDefEqProofs only [go_sem]
   rfl
  ·intro k hk
   by_cases hlt : k < V.length
   ·have hL := zms b (V.take k) ys
    rw [List.length_take] at hL
    have hnx := zfw (zio b) V ys k hlt
    simp -implicitDefEqProofs only [go_sem, zad, hlt]
    refine callF (zi0 b V[k]) (by simp -implicitDefEqProofs only [go_sem]) ?_
    simp -implicitDefEqProofs only [go_sem]
    refine ⟨fun h => ?_, fun h => ?_⟩
    ·simp -implicitDefEqProofs only [go_sem, zad, hlt]
     refine zc5 [2, 4, 7, 8] [29, 33] [] (qaf ((V.take k).foldl (zio b) ys) V[k] (by omega)) (by simp -implicitDefEqProofs only [go_sem]) (by simp -implicitDefEqProofs only [go_sem]) (by simp -implicitDefEqProofs only [go_sem]) (by simp -implicitDefEqProofs only [go_sem]) ?_
     simp -implicitDefEqProofs only [go_sem]
     refine ⟨k + 1, hlt, by omega, zcz 0 1088 ?_⟩
     simp -implicitDefEqProofs only [go_sem]
     rw [zap (by omega), hnx, qce h]
     exact ⟨rfl, rfl⟩
    ·refine ⟨k + 1, hlt, by omega, zac ?_⟩
     simp -implicitDefEqProofs only [go_sem]
     rw [zap (by omega), hnx, qma h]
     exact ⟨rfl, rfl⟩
   ·rw [List.take_of_length_le (by omega)]
    have hr : ∃ R, V.foldl (zio b) ys = R := ⟨_, rfl⟩
    obtain ⟨R, hR⟩ := hr
    rw [hR]
    simp -implicitDefEqProofs only [go_sem, hlt, e8, e9]
    refine zae (fun k : Nat => hd [(0, .one (.ow 0 0)), (2, .one (.rn (zbq b))), (4, .one (.bx 4 0)), (9, vI k)] [(4, [.t (.int .i64 f.op), .t (.str f.atom.name), .rn (tmS f.atom.args), .t (.str f.var), .rn (fmS f.parts)])] [(0, ⟨true, 1, R.map fun s => [.str s], 0, true⟩)]) (fun k => k = 0) (fun k => 0) 0 (zac ?_) rfl ?_
    ·simp -implicitDefEqProofs only [go_sem]
    ·rintro k rfl
     have hp0 : f.parts.length = 0 := by rw [hp]; rfl
     simp -implicitDefEqProofs only [go_sem, hp0]
 ·have e3 : (f.op == 3) = false := by simp [h3]
  rw [e3, if_neg (by simp)] at hv
  by_cases hq8 : isQ f.op = true
  ·rw [if_pos hq8] at hv
   rw [hv] at hs ⊢
   have hb1 : b.length <= 4294967296 := by omega
   have hb2 : b.length <= 4294967295 := by omega
   have key : (f.op == 8) = true \/ ((f.op == 8) = false /\ (f.op == 9) = true) := by
    unfold isQ at hq8
    cases h8 : f.op == 8
    ·rw [h8, Bool.false_or] at hq8; exact Or.inr ⟨rfl, hq8⟩
    ·exact Or.inl rfl
   rcases key with e8 | ⟨e8, e9⟩
   ·simp -implicitDefEqProofs only [go_sem, e3, e8]
    refine drawn (by kernel_rfl) ?_
    simp -implicitDefEqProofs only [go_sem]
    refine zbj (by simp -implicitDefEqProofs only [go_sem]) ?_
    simp -implicitDefEqProofs only [go_sem]
    refine zfs true (by simp -implicitDefEqProofs only [go_sem, hb1, zaz, ne_eq, List.length_map, Nat.zero_add]) ?_
    simp -implicitDefEqProofs only [go_sem, hb1, zaz, ne_eq, List.length_map, Nat.zero_add]
    refine zbj (by simp -implicitDefEqProofs only [go_sem]) ?_
    simp -implicitDefEqProofs only [go_sem]
    refine zfs true (by simp -implicitDefEqProofs only [go_sem, hb2, ne_eq, List.length_map]) ?_
    simp -implicitDefEqProofs only [go_sem, hb2, ne_eq, List.length_map]
    refine ⟨by kernel_rfl, ?_⟩
    refine zae (fun k : Nat => hd [(0, .one (.ow 0 0)), (2, .one (.rn (zbq (b ++ [f.var])))), (4, .one (.bx 4 0)), (9, vI k)] [(4, [.t (.int .i64 f.op), .t (.str f.atom.name), .rn (tmS f.atom.args), .t (.str f.var), .rn (fmS f.parts)])] [(0, ⟨true, 1, (za5 ys ((f.parts.take k).map fun x => vf x ((b ++ [f.var]))).flatten).map fun s => [.str s], 0, true⟩)]) (fun k => k <= f.parts.length) (fun k => f.parts.length - k) 0 (zac ?_) (Nat.zero_le _) ?_
    ·simp -implicitDefEqProofs only [go_sem]
     exact ⟨by simp, rfl⟩
    ·intro k hk
     by_cases hlt : k < f.parts.length
     ·have hq := zb4 (fun x => vf x ((b ++ [f.var]))) f.parts k hlt
      have hL := zcm ((f.parts.take k).map fun x => vf x ((b ++ [f.var]))).flatten ys
      have hnx := za6 Fm.nodes f.parts _ (List.getElem_mem hlt)
      have HC := H f.parts[k] (List.getElem_mem hlt) (za5 ys ((f.parts.take k).map fun x => vf x ((b ++ [f.var]))).flatten) ((b ++ [f.var])) (by omega) (by simp only [List.length_append, List.length_cons, List.length_nil]; omega)
      rw [<- zia, <- zc4 (fun x => vf x ((b ++ [f.var]))) f.parts k hlt] at HC
      simp only [fmD, zab f.parts[k]] at HC
      simp -implicitDefEqProofs only [go_sem, zad, hlt, zab f.parts[k]]
      refine zc5 [2, 4, 9] [57, 62, 63] [] (HC) (by simp -implicitDefEqProofs only [go_sem]) (by simp -implicitDefEqProofs only [go_sem]) (by simp -implicitDefEqProofs only [go_sem]) (by simp -implicitDefEqProofs only [go_sem]) ?_
      simp -implicitDefEqProofs only [go_sem]
      refine ⟨k + 1, hlt, by omega, zcz 0 2048 ?_⟩
      simp -implicitDefEqProofs only [go_sem]
      rw [zap (by omega)]
     ·simp -implicitDefEqProofs only [go_sem, hlt]
      exact Or.inl (by rw [List.take_of_length_le (by omega)])
   ·simp -implicitDefEqProofs only [go_sem, e3, e8, e9]
    refine drawn (by kernel_rfl) ?_
    simp -implicitDefEqProofs only [go_sem]
    refine zbj (by simp -implicitDefEqProofs only [go_sem]) ?_
    simp -implicitDefEqProofs only [go_sem]
    refine zfs true (by simp -implicitDefEqProofs only [go_sem, hb1, zaz, ne_eq, List.length_map, Nat.zero_add]) ?_
    simp -implicitDefEqProofs only [go_sem, hb1, zaz, ne_eq, List.length_map, Nat.zero_add]
    refine zbj (by simp -implicitDefEqProofs only [go_sem]) ?_
    simp -implicitDefEqProofs only [go_sem]
    refine zfs true (by simp -implicitDefEqProofs only [go_sem, hb2, ne_eq, List.length_map]) ?_
    simp -implicitDefEqProofs only [go_sem, hb2, ne_eq, List.length_map]
    refine ⟨by kernel_rfl, ?_⟩
    refine zae (fun k : Nat => hd [(0, .one (.ow 0 0)), (2, .one (.rn (zbq (b ++ [f.var])))), (4, .one (.bx 4 0)), (9, vI k)] [(4, [.t (.int .i64 f.op), .t (.str f.atom.name), .rn (tmS f.atom.args), .t (.str f.var), .rn (fmS f.parts)])] [(0, ⟨true, 1, (za5 ys ((f.parts.take k).map fun x => vf x ((b ++ [f.var]))).flatten).map fun s => [.str s], 0, true⟩)]) (fun k => k <= f.parts.length) (fun k => f.parts.length - k) 0 (zac ?_) (Nat.zero_le _) ?_
    ·simp -implicitDefEqProofs only [go_sem]
     exact ⟨by simp, rfl⟩
    ·intro k hk
     by_cases hlt : k < f.parts.length
     ·have hq := zb4 (fun x => vf x ((b ++ [f.var]))) f.parts k hlt
      have hL := zcm ((f.parts.take k).map fun x => vf x ((b ++ [f.var]))).flatten ys
      have hnx := za6 Fm.nodes f.parts _ (List.getElem_mem hlt)
      have HC := H f.parts[k] (List.getElem_mem hlt) (za5 ys ((f.parts.take k).map fun x => vf x ((b ++ [f.var]))).flatten) ((b ++ [f.var])) (by omega) (by simp only [List.length_append, List.length_cons, List.length_nil]; omega)
      rw [<- zia, <- zc4 (fun x => vf x ((b ++ [f.var]))) f.parts k hlt] at HC
      simp only [fmD, zab f.parts[k]] at HC
      simp -implicitDefEqProofs only [go_sem, zad, hlt, zab f.parts[k]]
      refine zc5 [2, 4, 9] [57, 62, 63] [] (HC) (by simp -implicitDefEqProofs only [go_sem]) (by simp -implicitDefEqProofs only [go_sem]) (by simp -implicitDefEqProofs only [go_sem]) (by simp -implicitDefEqProofs only [go_sem]) ?_
      simp -implicitDefEqProofs only [go_sem]
      refine ⟨k + 1, hlt, by omega, zcz 0 2048 ?_⟩
      simp -implicitDefEqProofs only [go_sem]
      rw [zap (by omega)]
     ·simp -implicitDefEqProofs only [go_sem, hlt]
      exact Or.inl (by rw [List.take_of_length_le (by omega)])
  ·have hq : isQ f.op = false := by simpa using hq8
   rw [hq, if_neg (by simp)] at hv
   rw [hv] at hs ⊢
   unfold isQ at hq
   rw [Bool.or_eq_false_iff] at hq
   obtain ⟨e8, e9⟩ := hq
   simp -implicitDefEqProofs only [go_sem, e3, e8, e9]
   refine zae (fun k : Nat => hd [(0, .one (.ow 0 0)), (2, .one (.rn (zbq b))), (4, .one (.bx 4 0)), (9, vI k)] [(4, [.t (.int .i64 f.op), .t (.str f.atom.name), .rn (tmS f.atom.args), .t (.str f.var), .rn (fmS f.parts)])] [(0, ⟨true, 1, (za5 ys ((f.parts.take k).map fun x => vf x (b)).flatten).map fun s => [.str s], 0, true⟩)]) (fun k => k <= f.parts.length) (fun k => f.parts.length - k) 0 (zac ?_) (Nat.zero_le _) ?_
   ·simp -implicitDefEqProofs only [go_sem]
    rfl
   ·intro k hk
    by_cases hlt : k < f.parts.length
    ·have hq := zb4 (fun x => vf x (b)) f.parts k hlt
     have hL := zcm ((f.parts.take k).map fun x => vf x (b)).flatten ys
     have hnx := za6 Fm.nodes f.parts _ (List.getElem_mem hlt)
     have HC := H f.parts[k] (List.getElem_mem hlt) (za5 ys ((f.parts.take k).map fun x => vf x (b)).flatten) (b) (by omega) (by omega)
     rw [<- zia, <- zc4 (fun x => vf x (b)) f.parts k hlt] at HC
     simp only [fmD, zab f.parts[k]] at HC
     simp -implicitDefEqProofs only [go_sem, zad, hlt, zab f.parts[k]]
     refine zc5 [2, 4, 9] [57, 62, 63] [] (HC) (by simp -implicitDefEqProofs only [go_sem]) (by simp -implicitDefEqProofs only [go_sem]) (by simp -implicitDefEqProofs only [go_sem]) (by simp -implicitDefEqProofs only [go_sem]) ?_
     simp -implicitDefEqProofs only [go_sem]
     refine ⟨k + 1, hlt, by omega, zcz 0 2048 ?_⟩
     simp -implicitDefEqProofs only [go_sem]
     rw [zap (by omega)]
    ·simp -implicitDefEqProofs only [go_sem, hlt]
     exact Or.inl (by rw [List.take_of_length_le (by omega)])
theorem qhb : ∀ f : Fm, f.forms = true -> f.wt <= 1048576 -> ∀ ys b : List Str, ys.length + (vf f b).length <= 1073741824 -> b.length + f.nodes <= 1073741824 -> GC Tryz.prog 199 [(true, .one (zbq ys)), (false, fmD f), (false, .one (zbq b))] [.one (zbq (za5 ys (vf f b)))] :=
 zbr fun o a v ps ih hf hw ys b hs hb => zzs (.mk o a v ps) hf hw (fun x hx ys b hs hb => ih x hx (by rw [Fm.forms_eq, Bool.and_eq_true] at hf; exact List.all_eq_true.1 hf.2 x hx) (Nat.le_trans (zby (a := .mk o a v ps) hx) hw) ys b hs hb) ys b hs hb
theorem zv3 (f : Fm) (hf : f.forms = true) (hw : f.wt <= 1048576) : FC Tryz.prog 138 [fmD f] [.one (zbq (za5 [] (vf f [])))] := by
 have h1 := qi5 f []
 have h2 := zd6 f
 have HC := qhb f hf hw [] [] (by simp only [List.length_nil]; omega) (by simp only [List.length_nil]; omega)
 simp only [fmD, zab] at HC ⊢
 refine zcv Tryz.call138 Tryz.func138 rfl (by kernel_rfl) (zav (by kernel_rfl)) ?_
 simp -implicitDefEqProofs only [go_sem, Tryz.results138]
 refine zbd (by simp -implicitDefEqProofs only [go_sem]) ?_
 simp -implicitDefEqProofs only [go_sem]
 refine zbd (by simp -implicitDefEqProofs only [go_sem]) ?_
 simp -implicitDefEqProofs only [go_sem]
 refine frzO 160 rfl rfl ?_
 simp -implicitDefEqProofs only [go_sem]
 refine zc5 [] [3, 4, 5] [] (HC) (by simp -implicitDefEqProofs only [go_sem, zbq, List.map_nil]) (by simp -implicitDefEqProofs only [go_sem, zbq, List.map_nil]) (by simp -implicitDefEqProofs only [go_sem, zbq, List.map_nil]) (by simp -implicitDefEqProofs only [go_sem, zbq, List.map_nil]) ?_
 simp -implicitDefEqProofs only [go_sem, zbq, List.map_nil]
end Go.Proofs.YtbccfiillleimaaGreat
namespace Go.Proofs.YtbccfiillleimaaGreat
set_option linter.unusedSimpArgs false
set_option linter.unusedVariables false
set_option linter.unusedSectionVars false
set_option maxRecDepth 4000
open Go.RowKit
variable {P : Program}
inductive AF
 | d (b : Bool) (x : D)
 | p (j : Nat)
 | fn (g : FuncId) (js : List Nat)
def AF.ds : List AF -> List (Bool × D)
 | [] => []
 | .d b x :: l => (b, x) :: AF.ds l
 | .p _ :: l => AF.ds l
 | .fn _ _ :: l => AF.ds l
def qe4 (b : Nat) : Value := .pointer (some ⟨b, 0, none⟩)
def AF.vals (bs : Nat -> Nat) : List AF -> List Value -> List Value
 | [], _ => []
 | .d _ _ :: l, v :: vs => v :: AF.vals bs l vs
 | .d _ _ :: _, [] => []
 | .p j :: l, vs => qe4 (bs j) :: AF.vals bs l vs
 | .fn g js :: l, vs => .func (.func g) #[] ⟨js.map fun j => qe4 (bs j)⟩ :: AF.vals bs l vs
def AF.okJ (n : Nat) : List AF -> Bool
 | [] => true
 | .d _ _ :: l => AF.okJ n l
 | .p j :: l => decide (j < n) && AF.okJ n l
 | .fn _ js :: l => js.all (fun j => decide (j < n)) && AF.okJ n l
abbrev Bxs := List (List (Bool × T))
def zxq (w : World) (bs : Nat -> Nat) : Nat -> List (List Value) -> Bxs -> Prop
 | _, [], [] => True
 | j, vs :: bvs, b :: bx => vs.length = b.length /\ (∃ ty, w.heap[bs j]? = some (.cells ⟨vs⟩ ty (0, 0))) /\ zxq w bs (j + 1) bvs bx
 | _, _, _ => False
theorem zxq.lt {w : World} {bs : Nat -> Nat} : ∀ {j : Nat} {bvs : List (List Value)} {bx : Bxs}, zxq w bs j bvs bx -> ∀ i, i < bx.length -> bs (j + i) < w.heap.size
 | _, [], [], _, i, hi => by simp at hi
 | j, _ :: _, _ :: _, h, 0, hi => by obtain ⟨ty, h⟩ := h.2.1; exact (Array.getElem?_eq_some_iff.1 h).1
 | j, _ :: _, _ :: _, h, i + 1, hi => by rw [show j + (i + 1) = j + 1 + i by omega]; exact zxq.lt h.2.2 i (by simpa using hi)
 | _, [], _ :: _, h, _, _ => h.elim
 | _, _ :: _, [], h, _, _ => h.elim
def PC (P : Program) (f : FuncId) (bx : Bxs) (l : List AF) (bx' : Bxs) (res : List (Bool × D)) : Prop := za8 P f /\ bx'.length = bx.length /\ ∀ (w : World) (bs : Nat -> Nat) (bvs : List (List Value)) (dvs : List Value) (fp tp : List Nat) (A : Nat -> Prop),
 (∀ i j, i < bx.length -> j < bx.length -> bs i = bs j -> i = j) -> (∀ j, j < bx.length -> bs j ∉ fp) -> zxq w bs 0 bvs bx →
 zaw w (fun k => (k < w.heap.size /\ k ∉ fp /\ ∀ j, j < bx.length -> k ≠ bs j) /\ A k) (AF.ds l ++ bxA bx.flatten) (dvs ++ bvs.flatten) fp tp -> fp.Nodup -> dvs.length = (AF.ds l).length →
 Calls P f ⟨AF.vals bs l dvs⟩ w fun e w' => ∃ us bvs' fp' tp', e = .returned (zbz us) /\ zxq w' bs 0 bvs' bx' /\ us.length = res.length ∧
  zaw w' (fun k => (k < w'.heap.size /\ k ∉ fp' /\ ∀ j, j < bx.length -> k ≠ bs j) /\ (A k \/ w.heap.size <= k \/ k ∈ fp)) (res ++ bxA bx'.flatten) (us ++ bvs'.flatten) fp' tp' /\ fp'.Nodup /\ (∀ b ∈ fp', b ∈ fp \/ w.heap.size <= b) ∧
  Bk (fun k => k < w.heap.size /\ k ∉ fp /\ ∀ j, j < bx.length -> k ≠ bs j) w w'
def c1P (k : Nat) : Bool × T -> C
 | (true, t) => owC k 0 t
 | (false, t) => t.toN
def zv1 : Nat -> List (Bool × T) -> List C
 | _, [] => []
 | k, p :: ps => c1P k p :: zv1 (k + 1) ps
def zk5 : Nat -> Nat -> Bxs -> Nat -> Option (List C)
 | _, _, [] => fun _ => none
 | j, k, b :: bs => upd (zk5 (j + 1) (k + b.length) bs) (1000000 + j) (some (zv1 k b))
def zdf : Nat -> Nat -> List AF -> Nat -> V
 | _, _, [] => fun _ => .one .any
 | i, k, .d b x :: l => upd (zdf (i + 1) (k + 1) l) i (gVN k (b, x))
 | i, k, .p j :: l => upd (zdf (i + 1) k l) i (.one (.bx (1000000 + j) 0))
 | i, k, .fn g js :: l => upd (zdf (i + 1) k l) i (.one (.fn g (js.map (1000000 + ·))))
def zi5 : Nat -> Bxs -> (Nat -> V) -> Nat -> V
 | _, [], f => f
 | j, _ :: bs, f => upd (zi5 (j + 1) bs f) (1000000 + j) (.one (.bx (1000000 + j) 0))
def zin (l : List AF) (bx : Bxs) : St := ⟨zi5 0 bx (zdf 0 0 l), zk5 0 (AF.ds l).length bx, zg7 0 (AF.ds l ++ bxA bx.flatten)⟩
theorem qlv (k : Nat) (p : Bool × T) : gVN k (p.1, .one p.2) = .one (c1P k p) := by obtain ⟨b, t⟩ := p; cases b <;> rfl
theorem zpy : ∀ (bx : Bxs) (j : Nat) (f : Nat -> V) (i : Nat), ((∃ q, q < bx.length /\ i = 1000000 + (j + q)) /\ zi5 j bx f i = .one (.bx i 0)) \/ ((∀ q, q < bx.length -> i ≠ 1000000 + (j + q)) /\ zi5 j bx f i = f i)
 | [], j, f, i => Or.inr ⟨fun q hq => by simp at hq, rfl⟩
 | b :: bx, j, f, i => by
  by_cases hi : i = 1000000 + j
  ·subst hi
   exact Or.inl ⟨⟨0, by simp, rfl⟩, by unfold zi5; rw [zah]⟩
  ·unfold zi5
   rw [zam _ _ hi]
   rcases zpy bx (j + 1) f i with ⟨⟨q, h1, h2⟩, h3⟩ | ⟨h1, h2⟩
   ·exact Or.inl ⟨⟨q + 1, by simp; omega, by omega⟩, h3⟩
   ·refine Or.inr ⟨fun q hq => ?_, h2⟩
    cases q with
    | zero => exact hi
    | succ q => have := h1 q (by simpa using hq); omega
theorem zq8 : ∀ (bx : Bxs) (j k b : Nat), zk5 j k bx b ≠ none ↔ ∃ q, q < bx.length /\ b = 1000000 + (j + q)
 | [], j, k, b => ⟨fun h => absurd rfl h, fun ⟨q, hq, _⟩ => by simp at hq⟩
 | c :: bx, j, k, b => by
  unfold zk5
  by_cases hi : b = 1000000 + j
  ·subst hi; rw [zah]; exact ⟨fun _ => ⟨0, by simp, rfl⟩, fun _ => by simp⟩
  ·rw [zam _ _ hi, zq8 bx (j + 1) _ b]
   refine ⟨fun ⟨q, h1, h2⟩ => ⟨q + 1, by simp; omega, by omega⟩, fun ⟨q, h1, h2⟩ => ?_⟩
   cases q with
   | zero => exact absurd h2 hi
   | succ q => exact ⟨q, by simpa using h1, by omega⟩
theorem zm2 {σ : St} {g : Gh} {w : World} : ∀ {b : List (Bool × T)} {vs : List Value} {k : Nat}, vs.length = b.length -> (∀ i p v, b[i]? = some p -> vs[i]? = some v -> CR σ g w (c1P (k + i) p) v) -> CRs σ g w (zv1 k b) vs
 | [], vs, _, hl, _ => List.length_eq_zero_iff.1 hl
 | p :: b, [], _, hl, _ => by simp at hl
 | p :: b, v :: vs, k, hl, h => ⟨v, vs, rfl, by simpa using h 0 p v rfl rfl, zm2 (by simpa using hl) fun i q u h1 h2 => by
   have := h (i + 1) q u (by simpa using h1) (by simpa using h2)
   rw [show k + (i + 1) = k + 1 + i by omega] at this
   exact this⟩
theorem zp2 {σ : St} {g : Gh} {w : World} {bs : Nat -> Nat} : ∀ (bx : Bxs) (bvs : List (List Value)) (j k : Nat), zxq w bs j bvs bx -> (∀ i p v, bx.flatten[i]? = some p -> bvs.flatten[i]? = some v -> CR σ g w (c1P (k + i) p) v) →
  ∀ b cs, zk5 j k bx b = some cs -> ∃ q vs ty, q < bx.length /\ b = 1000000 + (j + q) /\ w.heap[bs (j + q)]? = some (.cells ⟨vs⟩ ty (0, 0)) /\ CRs σ g w cs vs
 | [], _, _, _, _, _, b, cs, h => by cases h
 | c :: bx, [], _, _, h0, _, _, _, _ => h0.elim
 | c :: bx, vs :: bvs, j, k, h0, hc, b, cs, h => by
  obtain ⟨h1, ⟨ty, h2⟩, h3⟩ := h0
  unfold zk5 at h
  by_cases hi : b = 1000000 + j
  ·subst hi
   rw [zah] at h
   cases h
   refine ⟨0, vs, ty, by simp, rfl, h2, zm2 h1 fun i p v e1 e2 => hc i p v ?_ ?_⟩
   ·rw [List.flatten_cons, List.getElem?_append_left (List.getElem?_eq_some_iff.1 e1).1]; exact e1
   ·rw [List.flatten_cons, List.getElem?_append_left (List.getElem?_eq_some_iff.1 e2).1]; exact e2
  ·rw [zam _ _ hi] at h
   obtain ⟨q, vs', ty', k1, k2, k3, k4⟩ := zp2 bx bvs (j + 1) (k + c.length) h3 (fun i p v e1 e2 => by
    have := hc (c.length + i) p v (by rw [List.flatten_cons, List.getElem?_append_right (by omega), show c.length + i - c.length = i by omega]; exact e1) (by rw [List.flatten_cons, List.getElem?_append_right (by omega), show c.length + i - vs.length = i by omega]; exact e2)
    rw [show k + (c.length + i) = k + c.length + i by omega] at this
    exact this) b cs h
   exact ⟨q + 1, vs', ty', by simp; omega, by omega, by rw [show j + (q + 1) = j + 1 + q by omega]; exact k3, k4⟩
theorem zgs : ∀ (l : List AF) (i0 k i : Nat), l.length <= i -> zdf i0 k l (i0 + i) = .one .any
 | [], _, _, _, _ => rfl
 | a :: l, i0, k, 0, h => by simp at h
 | .d b x :: l, i0, k, i + 1, h => by unfold zdf; rw [zam _ _ (by omega), show i0 + (i + 1) = i0 + 1 + i by omega]; exact zgs l _ _ i (by simpa using h)
 | .p j :: l, i0, k, i + 1, h => by unfold zdf; rw [zam _ _ (by omega), show i0 + (i + 1) = i0 + 1 + i by omega]; exact zgs l _ _ i (by simpa using h)
 | .fn g js :: l, i0, k, i + 1, h => by unfold zdf; rw [zam _ _ (by omega), show i0 + (i + 1) = i0 + 1 + i by omega]; exact zgs l _ _ i (by simpa using h)
theorem zhv {σ : St} {g : Gh} {w : World} {bs : Nat -> Nat} {n : Nat} (hb : ∀ j, j < n -> σ.bx (1000000 + j) ≠ none /\ g.β (1000000 + j) = bs j) : ∀ (l : List AF) (i0 k : Nat) (dvs : List Value), AF.okJ n l = true -> dvs.length = (AF.ds l).length -> (∀ i d v, (AF.ds l)[i]? = some d -> dvs[i]? = some v -> VR σ g w (gVN (k + i) d) v) →
  ∀ i, i < l.length -> ∃ v, (AF.vals bs l dvs)[i]? = some v /\ VR σ g w (zdf i0 k l (i0 + i)) v
 | [], _, _, _, _, _, _, i, hi => by simp at hi
 | .d b x :: l, i0, k, [], _, hl, _, i, hi => by simp [AF.ds] at hl
 | .d b x :: l, i0, k, v :: dvs, ho, hl, h, i, hi => by
  cases i with
  | zero => exact ⟨v, rfl, by unfold zdf; show VR σ g w (upd _ i0 _ i0) v; rw [zah]; simpa using h 0 (b, x) v rfl rfl⟩
  | succ i =>
   obtain ⟨u, k1, k2⟩ := zhv hb l (i0 + 1) (k + 1) dvs ho (by simpa [AF.ds] using hl) (fun i d v h1 h2 => by
    have := h (i + 1) d v (by simpa [AF.ds] using h1) (by simpa using h2)
    rw [show k + (i + 1) = k + 1 + i by omega] at this
    exact this) i (by simpa using hi)
   exact ⟨u, by unfold AF.vals; simpa using k1, by unfold zdf; rw [zam _ _ (by omega), show i0 + (i + 1) = i0 + 1 + i by omega]; exact k2⟩
 | .p j :: l, i0, k, dvs, ho, hl, h, i, hi => by
  unfold AF.okJ at ho
  rw [Bool.and_eq_true, decide_eq_true_eq] at ho
  cases i with
  | zero => exact ⟨_, rfl, by unfold zdf; show VR σ g w (upd _ i0 _ i0) _; rw [zah]; exact ⟨by rw [(hb j ho.1).2]; rfl, (hb j ho.1).1⟩⟩
  | succ i =>
   obtain ⟨u, k1, k2⟩ := zhv hb l (i0 + 1) k dvs ho.2 hl h i (by simpa using hi)
   exact ⟨u, by unfold AF.vals; simpa using k1, by unfold zdf; rw [zam _ _ (by omega), show i0 + (i + 1) = i0 + 1 + i by omega]; exact k2⟩
 | .fn f js :: l, i0, k, dvs, ho, hl, h, i, hi => by
  unfold AF.okJ at ho
  rw [Bool.and_eq_true, List.all_eq_true] at ho
  cases i with
  | zero =>
   refine ⟨_, rfl, ?_⟩
   unfold zdf
   show VR σ g w (upd _ i0 _ i0) _
   rw [zah]
   refine ⟨?_, fun b hb' => ?_⟩
   ·rw [List.map_map]
    congr 2
    refine List.map_congr_left fun j hj => ?_
    show qe4 (bs j) = .pointer (some ⟨g.β (1000000 + j), 0, none⟩)
    rw [(hb j (by simpa using ho.1 j hj)).2]
    rfl
   ·obtain ⟨j, hj, rfl⟩ := List.mem_map.1 hb'
    exact (hb j (by simpa using ho.1 j hj)).1
  | succ i =>
   obtain ⟨u, k1, k2⟩ := zhv hb l (i0 + 1) k dvs ho.2 hl h i (by simpa using hi)
   exact ⟨u, by unfold AF.vals; simpa using k1, by unfold zdf; rw [zam _ _ (by omega), show i0 + (i + 1) = i0 + 1 + i by omega]; exact k2⟩
theorem AF.vals_len (bs : Nat -> Nat) : ∀ (l : List AF) (dvs : List Value), dvs.length = (AF.ds l).length -> (AF.vals bs l dvs).length = l.length
 | [], _, _ => rfl
 | .d _ _ :: l, [], h => by simp [AF.ds] at h
 | .d _ _ :: l, v :: vs, h => by simp [AF.vals, AF.vals_len bs l vs (by simpa [AF.ds] using h)]
 | .p _ :: l, vs, h => by simp [AF.vals, AF.vals_len bs l vs h]
 | .fn _ _ :: l, vs, h => by simp [AF.vals, AF.vals_len bs l vs h]
def T.fs : T -> Bool
 | .sl _ _ => true
 | t => t.flat
def gFS : List (Bool × D) -> Bool
 | [] => true
 | (false, _) :: ds => gFS ds
 | (true, .one t) :: ds => t.fs && gFS ds
 | (true, .agg ts) :: ds => ts.all T.fs && gFS ds
theorem zwo : ∀ {ds : List (Bool × D)}, gFS ds = true -> ∀ (i : Nat) d, ds[i]? = some (true, d) -> match d with | .one t => t.fs = true | .agg ts => ts.all T.fs = true
 | [], _, i, d, h => by simp at h
 | (false, x) :: ds, hg, 0, d, h => by simp at h
 | (false, x) :: ds, hg, i + 1, d, h => zwo (ds := ds) hg i d (by simpa using h)
 | (true, .one t) :: ds, hg, 0, d, h => by
  simp only [List.getElem?_cons_zero, Option.some.injEq, Prod.mk.injEq, true_and] at h
  subst h
  exact ((Bool.and_eq_true _ _).mp hg).1
 | (true, .agg t) :: ds, hg, 0, d, h => by
  simp only [List.getElem?_cons_zero, Option.some.injEq, Prod.mk.injEq, true_and] at h
  subst h
  exact ((Bool.and_eq_true _ _).mp hg).1
 | (true, .one t) :: ds, hg, i + 1, d, h => zwo (ds := ds) ((Bool.and_eq_true _ _).mp hg).2 i d (by simpa using h)
 | (true, .agg t) :: ds, hg, i + 1, d, h => zwo (ds := ds) ((Bool.and_eq_true _ _).mp hg).2 i d (by simpa using h)
theorem zvh {σ σ' : St} {g g' : Gh} {w : World} (he : σ'.ev = σ.ev) (hψ : g'.ψ = g.ψ) {k j : Nat} {t : T} {v : Value} (ht : t.fs = true) (h : CR σ g w (owC k j t) v) : CR σ' g' w (owC k j t) v := by
 cases t
 case sl => exact ⟨by rw [hψ]; exact h.1, by obtain ⟨x, h1, h2⟩ := h.2; exact ⟨x, by rw [he]; exact h1, h2⟩⟩
 all_goals exact zfb (A := Fix σ g w) (w := w) ht h
theorem zp1 {σ σ' : St} {g g' : Gh} {w : World} (he : σ'.ev = σ.ev) (hψ : g'.ψ = g.ψ) {k : Nat} : ∀ {ts : List T} {j : Nat} {vs : List Value}, ts.all T.fs = true -> CRs σ g w (zn1 k j ts) vs -> CRs σ' g' w (zn1 k j ts) vs
 | [], _, _, _, h => h
 | t :: ts, j, vs, ht, h => by
  rw [List.all_cons, Bool.and_eq_true] at ht
  obtain ⟨v, vs', rfl, h1, h2⟩ := h
  exact ⟨v, vs', rfl, zvh he hψ ht.1 h1, zp1 he hψ ht.2 h2⟩
theorem zov (d : Nat) : ∀ (ts : List T) (j : Nat) (f : Nat -> Option Ev), (∀ e x, f e = some x -> x.deep = true /\ x.on = true) -> ∀ e x, owE d j ts f e = some x -> x.deep = true /\ x.on = true
 | [], _, f, h, e, x, hx => h e x hx
 | t :: ts, j, f, h, e, x, hx => zov d ts (j + 1) _ (fun e x hx => by
   cases t <;> first | exact h e x hx | skip
   rename_i sz rows
   by_cases he : e = d * 32 + j
   ·subst he; simp only [zsl, zah, Option.some.injEq] at hx; subst hx; exact ⟨rfl, rfl⟩
   ·simp only [zsl, zam _ _ he] at hx; exact h e x hx) e x hx
theorem zgm : ∀ (ds : List (Bool × D)) (k e : Nat) (x : Ev), zg7 k ds e = some x -> x.deep = true /\ x.on = true
 | [], _, _, _, h => by cases h
 | (false, _) :: ds, k, e, x, h => zgm ds (k + 1) e x h
 | (true, .one t) :: ds, k, e, x, h => zov k [t] 0 _ (fun e x hx => zgm ds (k + 1) e x hx) e x h
 | (true, .agg ts) :: ds, k, e, x, h => zov k ts 0 _ (fun e x hx => zgm ds (k + 1) e x hx) e x h
theorem qba {w : World} {l : List AF} {bx : Bxs} {bs : Nat -> Nat} {bvs : List (List Value)} {dvs : List Value} {fp tp : List Nat} {A : Nat -> Prop} {N : Nat} (hinj : ∀ i j, i < bx.length -> j < bx.length -> bs i = bs j -> i = j) (hbf : ∀ j, j < bx.length -> bs j ∉ fp) (hbx : zxq w bs 0 bvs bx)
  (hv : zaw w (fun k => (k < w.heap.size /\ k ∉ fp /\ ∀ j, j < bx.length -> k ≠ bs j) /\ A k) (AF.ds l ++ bxA bx.flatten) (dvs ++ bvs.flatten) fp tp) (hn : fp.Nodup) (hl : dvs.length = (AF.ds l).length) (hj : AF.okJ bx.length l = true) (hN : l.length <= N) (hN2 : N <= 1000000) (hs : zbm (AF.ds l ++ bxA bx.flatten)) (hfs : gFS (AF.ds l ++ bxA bx.flatten) = true)
  {ξ : Nat -> Value} (h1 : ∀ i, i < 1000000 -> ξ i = undef) (h2 : ∀ i b, ξ i ≠ .bool b) (h3 : ∀ j, j < bx.length -> ξ (1000000 + j) = qe4 (bs j)) :
  ∃ g, (g.A0, g.R0) = (fun b => A b \/ w.heap.size <= b \/ b ∈ fp \/ ∃ j, j < bx.length /\ b = bs j, ⟨fun b => b ∈ fp \/ w.heap.size <= b \/ ∃ j, j < bx.length /\ b = bs j, ξ, h1, h2⟩) ∧
   Rel (fun b => b < w.heap.size /\ b ∉ fp /\ ∀ j, j < bx.length -> b ≠ bs j) N (zin l bx) g { tmps := (⟨AF.vals bs l dvs⟩ : Array Value) ++ Array.replicate (N - (AF.vals bs l dvs).length) undef, defers := [] } w := by
 have hv' : zaw w (fun b => b < w.heap.size /\ (A b /\ ∀ j, j < bx.length -> b ≠ bs j) /\ b ∉ fp) (AF.ds l ++ bxA bx.flatten) (dvs ++ bvs.flatten) fp tp := zaw.keepA (fun b hb => ⟨hb.1.1, ⟨hb.2, hb.1.2.2⟩, hb.1.2.1⟩) hv
 obtain ⟨g, hg, hR⟩ := Rel.start (N := (AF.ds l ++ bxA bx.flatten).length) (A0 := fun b => A b \/ w.heap.size <= b \/ b ∈ fp \/ ∃ j, j < bx.length /\ b = bs j) (R0 := ⟨fun b => b ∈ fp \/ w.heap.size <= b \/ ∃ j, j < bx.length /\ b = bs j, ξ, h1, h2⟩) hv' hn hs (Nat.le_refl _) (fun b hb => Or.inl hb.1) (fun b hb => ⟨Or.inr (Or.inr (Or.inl hb)), Or.inl hb⟩) (fun b hb => by
  by_cases hlt : b < w.heap.size
  ·have hm : b ∈ fp := Classical.byContradiction fun h => hb ⟨hlt, h⟩
   exact ⟨Or.inr (Or.inr (Or.inl hm)), Or.inl hm⟩
  ·exact ⟨Or.inr (Or.inl (by omega)), Or.inr (Or.inl (by omega))⟩)
 have hg1 : g.A0 = _ := (Prod.mk.inj hg).1
 have hg2 : g.R0 = _ := (Prod.mk.inj hg).2
 refine ⟨{ g with β := fun k => bs (k - 1000000) }, hg, ?_⟩
 have hlen : (dvs ++ bvs.flatten).length = (AF.ds l ++ bxA bx.flatten).length := zaw.len hv
 have hbne : ∀ b, (zin l bx).bx b ≠ none ↔ ∃ q, q < bx.length /\ b = 1000000 + q := fun b => by
  have := zq8 bx 0 (AF.ds l).length b
  simp only [Nat.zero_add] at this
  exact this
 have hblt : ∀ q, q < bx.length -> bs q < w.heap.size := fun q hq => by have := hbx.lt q hq; rwa [Nat.zero_add] at this
 have hdeep : ∀ e x, (zin l bx).ev e = some x -> x.deep = true /\ x.on = true := fun e x hx => zgm _ _ e x hx
 have hφ : ∀ e, (zin l bx).On e -> ∀ b ∈ g.φ e, ¬ (b < w.heap.size /\ b ∉ fp) := fun e he b hb => hR.etop e he b hb
 have hfree : ∀ b, ((b < w.heap.size /\ b ∉ fp /\ ∀ j, j < bx.length -> b ≠ bs j) /\ A b) -> zcn (zin l bx) { g with β := fun k => bs (k - 1000000) } w b := fun b hb => by
  refine ⟨⟨fun k hk => ?_, fun e x hx ho hh => hφ e ⟨x, hx, ho⟩ b (List.mem_of_mem_head? hh) ⟨hb.1.1, hb.1.2.1⟩, hb.1.1, ?_⟩, fun e he hm => hφ e he b hm ⟨hb.1.1, hb.1.2.1⟩⟩
  ·obtain ⟨q, hq, rfl⟩ := (hbne k).1 hk
   show bs (1000000 + q - 1000000) ≠ b
   rw [show 1000000 + q - 1000000 = q by omega]
   exact fun e => hb.1.2.2 q hq e.symm
  ·show g.A0 b
   rw [hg1]
   exact Or.inl hb.2
 have hat : ∀ (i : Nat) d v, (AF.ds l ++ bxA bx.flatten)[i]? = some d -> (dvs ++ bvs.flatten)[i]? = some v -> VR (zin l bx) { g with β := fun k => bs (k - 1000000) } w (gVN i d) v := fun i d v hd hv1 => by
  obtain ⟨b, d⟩ := d
  cases b with
  | false =>
   obtain ⟨u, e1, e2⟩ := zaw.atR hv i d hd
   rw [e1] at hv1
   cases hv1
   exact zqw hfree e2
  | true =>
   have h0 := hR.slots i
   have hj0 := zhx (AF.ds l ++ bxA bx.flatten) 0 i
   rw [Nat.zero_add, hd] at hj0
   have h0' : VR (zds (AF.ds l ++ bxA bx.flatten)) g w (zjh 0 (AF.ds l ++ bxA bx.flatten) i) _ := h0
   rw [hj0] at h0'
   have hlt : i < (dvs ++ bvs.flatten).length := (List.getElem?_eq_some_iff.1 hv1).1
   have e : ((⟨dvs ++ bvs.flatten⟩ : Array Value) ++ Array.replicate ((AF.ds l ++ bxA bx.flatten).length - (dvs ++ bvs.flatten).length) undef).getD i (g.R0.ξ i) = v := by
    rw [Array.getD_eq_getD_getElem?, Array.getElem?_append_left (by simpa using hlt)]
    simp only [List.getElem?_toArray, hv1, Option.getD_some]
   rw [e] at h0'
   have hf := zwo hfs i d hd
   cases d with
   | one t => exact zvh (σ := zds (AF.ds l ++ bxA bx.flatten)) (σ' := zin l bx) (g := g) (g' := { g with β := fun k => bs (k - 1000000) }) rfl rfl hf h0'
   | agg ts => obtain ⟨a, e1, e2⟩ := h0'; exact ⟨a, e1, zp1 (σ := zds (AF.ds l ++ bxA bx.flatten)) (σ' := zin l bx) (g := g) (g' := { g with β := fun k => bs (k - 1000000) }) rfl rfl hf e2⟩
 have hvl := AF.vals_len bs l dvs hl
 refine ⟨rfl, by simp; omega, fun b hb => ?_, fun i => ?_, fun b cs hb => ?_, fun b hb => ?_, fun b b' hb hb' he => ?_, fun e x he ho => ?_, fun e x he ho => ?_, hR.slc, fun e he b hb => ?_, fun e he b hb => ?_, fun e he => hR.nodup e he, fun e e' h1 h2 hne => hR.apart e e' h1 h2 hne, fun e k he hk hm => ?_⟩
 ·show g.A0 b /\ g.R0 b
  rw [hg1, hg2]
  show (A b \/ _) /\ (b ∈ fp \/ _)
  by_cases hlt : b < w.heap.size
  ·by_cases hm : b ∈ fp
   ·exact ⟨Or.inr (Or.inr (Or.inl hm)), Or.inl hm⟩
   ·have : ∃ j, j < bx.length /\ b = bs j := Classical.byContradiction fun hh => hb ⟨hlt, hm, fun j hj e => hh ⟨j, hj, e⟩⟩
    exact ⟨Or.inr (Or.inr (Or.inr this)), Or.inr (Or.inr this)⟩
  ·exact ⟨Or.inr (Or.inl (by omega)), Or.inr (Or.inl (by omega))⟩
 ·show VR _ _ _ (zi5 0 bx (zdf 0 0 l) i) _
  rcases zpy bx 0 (zdf 0 0 l) i with ⟨⟨q, h4, rfl⟩, h5⟩ | ⟨_, h5⟩
  ·rw [h5, Nat.zero_add, Array.getD_eq_getD_getElem?, Array.getElem?_eq_none (by simp; omega)]
   refine ⟨?_, (hbne _).2 ⟨q, h4, rfl⟩⟩
   show (none : Option Value).getD (g.R0.ξ (1000000 + q)) = .pointer (some ⟨bs (1000000 + q - 1000000), 0, none⟩)
   rw [hg2, show 1000000 + q - 1000000 = q by omega]
   exact h3 q h4
  ·rw [h5]
   by_cases hi : i < l.length
   ·obtain ⟨u, e1, e2⟩ := zhv (σ := zin l bx) (g := { g with β := fun k => bs (k - 1000000) }) (w := w) (bs := bs) (n := bx.length) (fun j hj => ⟨(hbne _).2 ⟨j, hj, rfl⟩, by show bs (1000000 + j - 1000000) = bs j; rw [show 1000000 + j - 1000000 = j by omega]⟩) l 0 0 dvs hj hl (fun i d v e1 e2 => by
     rw [Nat.zero_add]
     exact hat i d v (by rw [List.getElem?_append_left (List.getElem?_eq_some_iff.1 e1).1]; exact e1) (by rw [List.getElem?_append_left (List.getElem?_eq_some_iff.1 e2).1]; exact e2)) i hi
    rw [Nat.zero_add] at e2
    rw [Array.getD_eq_getD_getElem?, Array.getElem?_append_left (by simp; omega)]
    simp only [List.getElem?_toArray, e1, Option.getD_some]
    exact e2
   ·have := zgs l 0 0 i (by omega)
    rw [Nat.zero_add] at this
    rw [this]
    trivial
 ·obtain ⟨q, vs, ty, k1, k2, k3, k4⟩ := zp2 (σ := zin l bx) (g := { g with β := fun k => bs (k - 1000000) }) bx bvs 0 (AF.ds l).length hbx (fun i p v e1 e2 => by
   have := hat ((AF.ds l).length + i) (p.1, .one p.2) v (by rw [List.getElem?_append_right (by omega), show (AF.ds l).length + i - (AF.ds l).length = i by omega]; unfold bxA; rw [List.getElem?_map, e1]; rfl) (by rw [List.getElem?_append_right (by omega), show (AF.ds l).length + i - dvs.length = i by omega]; exact e2)
   rw [qlv] at this
   exact this) b cs hb
  rw [Nat.zero_add] at k2 k3
  subst k2
  exact ⟨⟨vs⟩, ty, by show w.heap[bs (1000000 + q - 1000000)]? = _; rw [show 1000000 + q - 1000000 = q by omega]; exact k3, k4⟩
 ·obtain ⟨q, hq, rfl⟩ := (hbne b).1 hb
  intro h
  have h := h.2.2 q hq
  exact h (show bs (1000000 + q - 1000000) = bs q by rw [show 1000000 + q - 1000000 = q by omega])
 ·obtain ⟨q, hq, rfl⟩ := (hbne b).1 hb
  obtain ⟨q', hq', rfl⟩ := (hbne b').1 hb'
  have he : bs (1000000 + q - 1000000) = bs (1000000 + q' - 1000000) := he
  rw [show 1000000 + q - 1000000 = q by omega, show 1000000 + q' - 1000000 = q' by omega] at he
  rw [hinj q q' hq hq' he]
 ·obtain ⟨ao, cap, e1, e2, e3, e4⟩ := hR.evs e x he ho
  refine ⟨ao, cap, e1, e2, e3, ?_⟩
  rcases e4 with e4 | ⟨b, cells, ty, fps, j1, j2, j3, j4, j5⟩
  ·exact Or.inl e4
  ·rw [if_pos (hdeep e x he).1] at j5
   exact Or.inr ⟨b, cells, ty, fps, j1, j2, j3, j4, by rw [if_pos (hdeep e x he).1]; exact j5⟩
 ·rw [(hdeep e x he).2] at ho; cases ho
 ·exact hR.ebase e he b hb
 ·exact fun h => hφ e he b hb ⟨h.1, h.2.1⟩
 ·obtain ⟨q, hq, rfl⟩ := (hbne k).1 hk
  have hm : bs (1000000 + q - 1000000) ∈ g.φ e := hm
  rw [show 1000000 + q - 1000000 = q by omega] at hm
  exact hφ e he _ hm ⟨hblt q hq, hbf q hq⟩
def bxE (σ : St) : Nat -> Bxs -> (List V -> Prop) -> Prop
 | _, [], K => K []
 | j, b :: bs, K => σ.sl (1000000 + j) = .one (.bx (1000000 + j) 0) /\ zas (σ.bx (1000000 + j)) fun cs => cs.length = b.length /\ bxE σ (j + 1) bs fun vs => K (cs.map .one ++ vs)
theorem CRs.ones {σ : St} {g : Gh} {w : World} : ∀ {cs : List C} {vs : List Value}, CRs σ g w cs vs -> VRl σ g w (cs.map .one) vs
 | [], _, h => h
 | c :: cs, _, h => by obtain ⟨v, vs', rfl, h1, h2⟩ := h; exact ⟨v, vs', rfl, h1, CRs.ones h2⟩
theorem zpn {n0 : Nat -> Prop} {N : Nat} {σ : St} {g : Gh} {a : Act} {w : World} {bs : Nat -> Nat} (hR : Rel n0 N σ g a w) (hN : N <= 1000000) : ∀ {bx : Bxs} {j : Nat} {K : List V -> Prop}, (∀ q, q < bx.length -> g.R0.ξ (1000000 + (j + q)) = qe4 (bs (j + q))) -> bxE σ j bx K →
  ∃ vs bvs, K vs /\ zxq w bs j bvs bx /\ VRl σ g w vs bvs.flatten /\ ∀ q, q < bx.length -> σ.bx (1000000 + (j + q)) ≠ none /\ g.β (1000000 + (j + q)) = bs (j + q)
 | [], j, K, _, h => ⟨[], [], h, trivial, rfl, fun q hq => by simp at hq⟩
 | b :: bx, j, K, hξ, h => by
  obtain ⟨h1, h2⟩ := h
  obtain ⟨cs, h3, h4, h5⟩ := zan h2
  obtain ⟨vs, bvs, k1, k2, k3, k4⟩ := zpn hR hN (bx := bx) (j := j + 1) (fun q hq => by have := hξ (q + 1) (by simpa using hq); rw [show j + (q + 1) = j + 1 + q by omega] at this; exact this) h5
  have h0 := hR.slots (1000000 + j)
  rw [h1, Array.getD_eq_getD_getElem?, Array.getElem?_eq_none (by rw [hR.size]; omega)] at h0
  have hx := hξ 0 (by simp)
  rw [Nat.add_zero] at hx
  have h0 : CR σ g w (.bx (1000000 + j) 0) (g.R0.ξ (1000000 + j)) := h0
  rw [hx] at h0
  have hβ : g.β (1000000 + j) = bs j := by
   have := h0.1
   unfold qe4 at this
   simp only [Value.pointer.injEq, Option.some.injEq] at this
   injection this with e
   exact e.symm
  obtain ⟨us, ty, j1, j2⟩ := hR.boxes _ cs h3
  rw [hβ] at j1
  refine ⟨_, us.toList :: bvs, k1, ⟨by rw [j2.len, h4], ⟨ty, j1⟩, k2⟩, VRl.append j2.ones k3, fun q hq => ?_⟩
  cases q with
  | zero => exact ⟨h0.2, hβ⟩
  | succ q => rw [show j + (q + 1) = j + 1 + q by omega]; exact k4 q (by simpa using hq)
def PB0 (P : Program) (rs : List ResultVar) (res : List (Bool × D)) (bx : Bxs) (pl : List (Nat × Nat × Nat)) (σ : St) : Prop := zas (zbx P σ rs) fun vs => bxE σ 0 bx fun cs => gvA σ (fun _ => True) [] pl (vs ++ cs) (res ++ bxA bx.flatten)
def PB (P : Program) (rs : List ResultVar) (res : List (Bool × D)) (bx : Bxs) (e : Exit) (σ : St) : Prop := match e with
 | .normal => PB0 P rs res bx [] σ \/ ∃ pl, PB0 P rs res bx pl σ
 | .ret => PB0 P rs res bx [] σ \/ ∃ pl, PB0 P rs res bx pl σ
 | _ => False
theorem zll {σ : St} : ∀ {rs : List ResultVar} {vs : List V}, zbx P σ rs = some vs -> vs.length = rs.length
 | [], vs, h => by cases h; rfl
 | r :: rs, vs, h => by
  unfold zbx at h
  cases h1 : zyk P σ r with
  | none => rw [h1] at h; cases h
  | some v =>
   rw [h1] at h
   simp only [Option.bind_some] at h
   cases h2 : zbx P σ rs with
   | none => rw [h2] at h; cases h
   | some us => rw [h2] at h; cases h; simp [zll h2]
theorem VRl.len {σ : St} {g : Gh} {w : World} : ∀ {xs : List V} {vs : List Value}, VRl σ g w xs vs -> vs.length = xs.length
 | [], _, h => by rw [show _ = [] from h]; rfl
 | x :: xs, _, h => by obtain ⟨v, vs', rfl, _, h2⟩ := h; simp [VRl.len h2]
theorem zku {f : FuncId} {fn : Func} {c : Code} {bx bx' : Bxs} {l : List AF} {res : List (Bool × D)} (hc : za8 P f) (hf : P.funcs[f]? = some fn) (hb : fn.body = some c) (hd : zbv fn.ntmps c = true) (hN : l.length <= fn.ntmps) (hN2 : fn.ntmps <= 1000000) (hbl : bx'.length = bx.length) (hj : AF.okJ bx.length l = true) (hs : zbm (AF.ds l ++ bxA bx.flatten)) (hfs : gFS (AF.ds l ++ bxA bx.flatten) = true) (hrl : fn.results.toList.length = res.length)
  (h : ex P c [] (PB P fn.results.toList res bx') (zin l bx)) : PC P f bx l bx' res := by
 refine ⟨hc, hbl, fun w bs bvs dvs fp tp A hinj hbf hbx hv hn hl => ?_⟩
 refine calls_of_wp hf hb ?_
 obtain ⟨g, hg, hR⟩ := qba (N := fn.ntmps) hinj hbf hbx hv hn hl hj hN hN2 hs hfs (ξ := fun i => if 1000000 <= i then qe4 (bs (i - 1000000)) else undef) (fun i hi => if_neg (by omega)) (fun i b => by
  by_cases h : 1000000 <= i
  ·rw [if_pos h]; exact fun e => by cases e
  ·rw [if_neg h]; exact fun e => by cases e) (fun j hj => by
  rw [if_pos (by omega), show 1000000 + j - 1000000 = j by omega])
 refine wp_mono (zbs (w0 := w) c (zin l bx) _ hd h g _ w hR (fun k hk => hk.1) (Bk.refl _ _) hg) fun e a' w' hq => ?_
 obtain ⟨σ', g', h1, h2, h3, h4, h5⟩ := hq
 have hξ : ∀ q, q < bx'.length -> g'.R0.ξ (1000000 + (0 + q)) = qe4 (bs (0 + q)) := fun q hq => by
  rw [(Prod.mk.inj h5).2, Nat.zero_add]
  show (if 1000000 <= 1000000 + q then qe4 (bs (1000000 + q - 1000000)) else undef) = _
  rw [if_pos (by omega), show 1000000 + q - 1000000 = q by omega]
 have key : (∃ pl, PB0 P fn.results.toList res bx' pl σ') -> ∃ v, (results fn a'.tmps).run P w' = .ok v w' /\ ∃ us bvs' fp' tp', Ending.returned v = .returned (zbz us) /\ zxq w' bs 0 bvs' bx' /\ us.length = res.length ∧
   zaw w' (fun k => (k < w'.heap.size /\ k ∉ fp' /\ ∀ j, j < bx.length -> k ≠ bs j) /\ (A k \/ w.heap.size <= k \/ k ∈ fp)) (res ++ bxA bx'.flatten) (us ++ bvs'.flatten) fp' tp' /\ fp'.Nodup /\ (∀ b ∈ fp', b ∈ fp \/ w.heap.size <= b) /\ Bk (fun k => k < w.heap.size /\ k ∉ fp /\ ∀ j, j < bx.length -> k ≠ bs j) w w' := by
  rintro ⟨pl, hk⟩
  obtain ⟨vs, hvs, hk⟩ := zan hk
  obtain ⟨us, r1, r2⟩ := zca h2 fn hvs
  obtain ⟨cs, bvs', k0, b1, b2, b3⟩ := zpn (bs := bs) h2 hN2 hξ hk
  obtain ⟨B, hB⟩ := h2.fam
  obtain ⟨s, k1, ⟨tp', k2⟩, k3, k4⟩ := ze2 h2 hB k0 (VRl.append r2 b2)
  rw [List.append_nil] at k4
  have hsp : s.Pairwise okP := (List.pairwise_reverse.1 (k4 List.Pairwise.nil)).imp fun h => h.symm
  have hin : ∀ b ∈ bks B s, ∃ e, σ'.On e /\ b ∈ g'.φ e := fun b hb => by
   obtain ⟨x, hx, hm⟩ := List.mem_flatMap.1 hb
   exact ⟨x.1, k3 x hx, hB.sub x.1 x.2 b (k3 x hx) hm⟩
  have hbβ : ∀ j, j < bx.length -> σ'.bx (1000000 + j) ≠ none /\ g'.β (1000000 + j) = bs j := fun j hj => by
   have := b3 j (by omega)
   rwa [Nat.zero_add] at this
  have hA : ∀ b, zcn σ' g' w' b -> (b < w'.heap.size /\ b ∉ bks B s /\ ∀ j, j < bx.length -> b ≠ bs j) /\ (A b \/ w.heap.size <= b \/ b ∈ fp) := fun b hb => by
   have hnb : ∀ j, j < bx.length -> b ≠ bs j := fun j hj e => hb.1.1 _ (hbβ j hj).1 (by rw [(hbβ j hj).2, e])
   refine ⟨⟨hb.1.2.2.1, fun hm => ?_, hnb⟩, ?_⟩
   ·obtain ⟨e, ho, hm⟩ := hin b hm
    exact hb.2 e ho hm
   ·have h0 := hb.1.2.2.2
    rw [(Prod.mk.inj h5).1] at h0
    rcases h0 with h0 | h0 | h0 | ⟨j, hj, h0⟩
    ·exact Or.inl h0
    ·exact Or.inr (Or.inl h0)
    ·exact Or.inr (Or.inr h0)
    ·exact absurd h0 (hnb j hj)
  refine ⟨_, r1, us, bvs', bks B s, tp', rfl, b1, by rw [r2.len, <- hrl]; exact zll hvs, zaw.keepA hA k2, zd1 h2 hB k3 hsp, fun b hb => ?_, h4⟩
  obtain ⟨e, ho, hm⟩ := hin b hb
  have h0 := (h2.ebase e ho b hm).2
  rw [(Prod.mk.inj h5).2] at h0
  rcases h0 with h0 | h0 | ⟨j, hj, h0⟩
  ·exact Or.inl h0
  ·exact Or.inr h0
  ·have := h2.ebx e _ ho (hbβ j hj).1
   rw [(hbβ j hj).2] at this
   exact absurd (h0 ▸ hm) this
 have key' : ∀ {Y : Prop}, (PB0 P fn.results.toList res bx' [] σ' \/ ∃ pl, PB0 P fn.results.toList res bx' pl σ') -> ((∃ pl, PB0 P fn.results.toList res bx' pl σ') -> Y) -> Y := fun h k => h.elim (fun h => k ⟨[], h⟩) k
 cases e with
 | normal => exact ⟨h2.defers, key' h1 key⟩
 | ret => exact ⟨h2.defers, key' h1 key⟩
 | exit _ => exact h1.elim
 | goto _ => exact h1.elim
 | panic _ => exact h1.elim
 | outgrown => exact h1.elim
end Go.Proofs.YtbccfiillleimaaGreat
namespace Go.Proofs.YtbccfiillleimaaGreat
set_option linter.unusedSimpArgs false
set_option linter.unusedVariables false
set_option linter.unusedSectionVars false
set_option maxRecDepth 4000
open Go.RowKit
variable {P : Program}
structure KeptB (W : List Nat) (σ τ : St) : Prop where
 sl : ∀ i, τ.sl i = .one .any \/ (τ.sl i = σ.sl i /\ (τ.sl i).okU τ)
 bx : ∀ b cs, b ∉ W -> τ.bx b = some cs -> σ.bx b = some cs /\ qg7 τ cs
 bxW : ∀ b ∈ W, σ.bx b ≠ none /\ τ.bx b ≠ none
 ev : ∀ e x, τ.ev e = some x -> σ.ev e = some x /\ x.on = true /\ x.deep = true
theorem Rel.givenB {W : List Nat} {n0 : Nat -> Prop} {N : Nat} {σ τ : St} {g g' : Gh} {a : Act} {w w' : World} (hR : Rel n0 N σ g a w) (hn0 : LtK n0 w) (hK : KeptB W σ τ) {fp : List Nat} (hfp : ∀ b ∈ fp, ∃ e, σ.On e /\ τ.ev e = none /\ b ∈ g.φ e) (hbk : Bk (fun k => k < w.heap.size /\ k ∉ fp /\ ∀ b ∈ W, k ≠ g.β b) w w')
  {ev' : Nat -> Option Ev} {F : List Nat} (hn : New τ g (fun b => b ∈ fp \/ w.heap.size <= b) w' ev' g' F) (hW : ∀ b ∈ W, ∀ cs, τ.bx b = some cs -> ∃ vs ty, w'.heap[g.β b]? = some (.cells vs ty (0, 0)) /\ CRs ⟨τ.sl, τ.bx, ev'⟩ g' w' cs vs.toList) : Rel n0 N ⟨τ.sl, τ.bx, ev'⟩ g' a w' := by
 have hOnσ : ∀ e, τ.On e -> σ.On e := fun e ⟨x, hx, ho⟩ => ⟨x, (hK.ev e x hx).1, ho⟩
 have hlt : ∀ e, σ.On e -> ∀ b ∈ g.φ e, b < w.heap.size := fun e ⟨x, hx, ho⟩ => (hR.evs e x hx ho).lt
 have hbne : ∀ b, τ.bx b ≠ none -> σ.bx b ≠ none := fun b hb => by
  by_cases hbW : b ∈ W
  ·exact (hK.bxW b hbW).1
  obtain ⟨cs, hcs⟩ := Option.ne_none_iff_exists'.1 hb
  rw [(hK.bx b cs hbW hcs).1]; simp
 have hfR : ∀ b ∈ fp, g.A0 b /\ g.R0 b /\ ¬ n0 b := fun b hb => by
  obtain ⟨e, ho, _, hm⟩ := hfp b hb
  obtain ⟨k1, k2⟩ := hR.ebase e ho b hm
  exact ⟨k1, k2, hR.etop e ho b hm⟩
 have hNB : ∀ b, (b ∈ fp \/ w.heap.size <= b) -> g.A0 b /\ g.R0 b /\ ¬ n0 b := fun b hb => by
  rcases hb with hb | hb
  ·exact hfR b hb
  ·have hnn := hn0.new hb
   exact ⟨(hR.anew b hnn).1, (hR.anew b hnn).2, hnn⟩
 have hβfp : ∀ b, τ.bx b ≠ none -> ¬ (g.β b ∈ fp \/ w.heap.size <= g.β b) := fun b hb h => by
  rcases h with h | h
  ·obtain ⟨e, ho, _, hm⟩ := hfp _ h
   exact hR.ebx e b ho (hbne b hb) hm
  ·have := hR.lt (hbne b hb); omega
 have hφfp : ∀ e, τ.On e -> ∀ b ∈ g.φ e, ¬ (b ∈ fp \/ w.heap.size <= b) := fun e ho b hb h => by
  rcases h with h | h
  ·obtain ⟨e', ho', hno, hm⟩ := hfp b h
   refine hR.apart e e' (hOnσ e ho) ho' (fun hee => ?_) b hb hm
   subst hee
   obtain ⟨x, hx, _⟩ := ho
   rw [hx] at hno; cases hno
  ·have := hlt e (hOnσ e ho) b hb; omega
 have hon : ∀ e, St.On ⟨τ.sl, τ.bx, ev'⟩ e -> τ.ev e ≠ none -> τ.On e := fun e ⟨x, hx, ho⟩ hee => ⟨x, (hn.old e hee).1.symm.trans hx, ho⟩
 have hkeep : ∀ b, b < w.heap.size -> b ∉ fp -> (∀ k ∈ W, b ≠ g.β k) -> w'.heap[b]? = w.heap[b]? := fun b h1 h2 h3 => hbk.block b ⟨h1, h2, h3⟩
 have hrn : ∀ b, zcn σ g w b -> w'.heap[b]? = w.heap[b]? /\ zcn ⟨τ.sl, τ.bx, ev'⟩ g' w' b := fun b hb => by
  obtain ⟨hf, hr⟩ := hb
  have hnb : ∀ e, St.On ⟨τ.sl, τ.bx, ev'⟩ e -> b ∉ g'.φ e := fun e ho hm => by
   by_cases hee : τ.ev e = none
   ·obtain ⟨x, hx, _⟩ := ho
    rcases ((hn.new e x hee hx).2.2.1 b hm).1 with h | h
    ·obtain ⟨e', ho', _, hm'⟩ := hfp b h
     exact hr e' ho' hm'
    ·have := hf.2.2.1; omega
   ·rw [(hn.old e hee).2.2] at hm
    exact hr e (hOnσ e (hon e ho hee)) hm
  refine ⟨hkeep b hf.2.2.1 (fun hm => by obtain ⟨e', ho', _, hm'⟩ := hfp b hm; exact hr e' ho' hm') (fun k hk e => hf.1 k (hK.bxW k hk).1 e.symm), ⟨fun k hk => by rw [hn.β]; exact hf.1 k (hbne k hk), fun e x hx hon' hh => hnb e ⟨x, hx, hon'⟩ (List.mem_of_mem_head? hh), Nat.lt_of_lt_of_le hf.2.2.1 hbk.size, by rw [hn.A0]; exact hf.2.2.2⟩, hnb⟩
 have hψ : ∀ e, τ.ev e ≠ none -> ev' e = τ.ev e /\ g'.ψ e = g.ψ e := fun e he => ⟨(hn.old e he).1, (hn.old e he).2.1⟩
 refine ⟨by rw [hR.defers], hR.size, by rw [hn.A0, hn.R0]; exact hR.anew, fun i => ?_, fun b cs hb => ?_, fun b hb => by rw [hn.β]; exact hR.base b (hbne b hb), fun b b' h1 h2 h3 => by rw [hn.β] at h3; exact hR.inj b b' (hbne b h1) (hbne b' h2) h3, fun e x he ho => ?_, fun e x he ho => ?_, hn.slc, fun e he b hb => ?_, fun e he b hb => ?_, fun e he => ?_, fun e e' h1 h2 hne b hb1 hb2 => ?_, fun e k he hk hm => ?_⟩
 ·rcases hK.sl i with h | ⟨h, hok⟩
  ·rw [show (⟨τ.sl, τ.bx, ev'⟩ : St).sl i = .one .any from h]; trivial
  ·rw [hn.R0]
   show VR _ g' w' (τ.sl i) _
   have hs := hR.slots i
   rw [<- h] at hs
   exact qj6 hn.β hψ hrn hok hs
 ·by_cases hbW : b ∈ W
  ·rw [hn.β]; exact hW b hbW cs hb
  obtain ⟨hb1, hb2⟩ := hK.bx b cs hbW hb
  obtain ⟨vs, ty, k1, k2⟩ := hR.boxes b cs hb1
  have hne : τ.bx b ≠ none := by rw [show τ.bx b = some cs from hb]; simp
  have hnf := hβfp b hne
  exact ⟨vs, ty, by rw [hn.β, hkeep _ (hR.lt (hbne b hne)) (fun h => hnf (Or.inl h)) (fun k hk e => hbW (hR.inj b k (hbne b hne) (hK.bxW k hk).1 e ▸ hk))]; exact k1, zk6 hn.β hψ hrn hb2 k2⟩
 ·by_cases hee : τ.ev e = none
  ·obtain ⟨⟨k1, _, k0⟩, k2, k3, k4⟩ := hn.new e x hee he
   rw [k0]
   unfold zax at k2
   obtain ⟨ao, cap, j1, j2, j3, j4⟩ := k2
   refine ⟨ao, cap, j1, j2, j3, ?_⟩
   rcases j4 with j4 | ⟨b, cells, ty, fps, j4, j5, j6, j7, j8⟩
   ·exact Or.inl j4
   ·exact Or.inr ⟨b, cells, ty, fps, j4, j5, j6, j7, by rw [if_pos k1]; exact j8⟩
  ·obtain ⟨o1, o2, o3⟩ := hn.old e hee
   have hx : τ.ev e = some x := o1.symm.trans he
   obtain ⟨k1, k2, k3⟩ := hK.ev e x hx
   have hE := hR.evs e x k1 k2
   have hno := hφfp e ⟨x, hx, k2⟩
   have hl := hlt e ⟨x, k1, k2⟩
   have hkp : ∀ b ∈ g.φ e, w'.heap[b]? = w.heap[b]? := fun b hb => hkeep b (hl b hb) (fun h => hno b hb (Or.inl h)) fun k' hk' e => hR.ebx _ k' ⟨x, k1, k2⟩ (hK.bxW k' hk').1 (e ▸ hb)
   rw [o2, o3]
   obtain ⟨ao, cap, r1, r2, r3, r4⟩ := hE
   refine ⟨ao, cap, r1, r2, r3, ?_⟩
   rcases r4 with r4 | ⟨b, cells, ty, fps, r4, r5, r6, r7, r8⟩
   ·exact Or.inl r4
   ·rw [if_pos k3] at r8
    exact Or.inr ⟨b, cells, ty, fps, r4, r5, by rw [hkp b (by rw [r5]; simp)]; exact r6, r7, by rw [if_pos k3]; exact zal.keep cells 0 x.sz x.rows fps r8 fun b' hb' => hkp b' (by rw [r5]; simp [hb'])⟩
 ·by_cases hee : τ.ev e = none
  ·rw [(hn.new e x hee he).1.2.1] at ho; cases ho
  ·have hx : τ.ev e = some x := (hn.old e hee).1.symm.trans he
   rw [(hK.ev e x hx).2.1] at ho; cases ho
 ·rw [hn.A0, hn.R0]
  by_cases hee : τ.ev e = none
  ·obtain ⟨x, hx, _⟩ := he
   have := hNB b ((hn.new e x hee hx).2.2.1 b hb).1
   exact ⟨this.1, this.2.1⟩
  ·rw [(hn.old e hee).2.2] at hb
   exact hR.ebase e (hOnσ e (hon e he hee)) b hb
 ·by_cases hee : τ.ev e = none
  ·obtain ⟨x, hx, _⟩ := he
   exact (hNB b ((hn.new e x hee hx).2.2.1 b hb).1).2.2
  ·rw [(hn.old e hee).2.2] at hb
   exact hR.etop e (hOnσ e (hon e he hee)) b hb
 ·by_cases hee : τ.ev e = none
  ·obtain ⟨x, hx, _⟩ := he
   exact (hn.new e x hee hx).2.2.2
  ·rw [(hn.old e hee).2.2]
   exact hR.nodup e (hOnσ e (hon e he hee))
 ·by_cases hee : τ.ev e = none
  ·obtain ⟨x, hx, _⟩ := h1
   by_cases hee' : τ.ev e' = none
   ·obtain ⟨x', hx', _⟩ := h2
    exact hn.apart e e' hee hee' (by rw [show ev' e = some x from hx]; simp) (by rw [show ev' e' = some x' from hx']; simp) hne b hb1 hb2
   ·rw [(hn.old e' hee').2.2] at hb2
    exact hφfp e' (hon e' h2 hee') b hb2 ((hn.new e x hee hx).2.2.1 b hb1).1
  ·rw [(hn.old e hee).2.2] at hb1
   by_cases hee' : τ.ev e' = none
   ·obtain ⟨x', hx', _⟩ := h2
    exact hφfp e (hon e h1 hee) b hb1 ((hn.new e' x' hee' hx').2.2.1 b hb2).1
   ·rw [(hn.old e' hee').2.2] at hb2
    exact hR.apart e e' (hOnσ e (hon e h1 hee)) (hOnσ e' (hon e' h2 hee')) hne b hb1 hb2
 ·rw [hn.β] at hm
  by_cases hee : τ.ev e = none
  ·obtain ⟨x, hx, _⟩ := he
   exact hβfp k hk ((hn.new e x hee hx).2.2.1 _ hm).1
  ·rw [(hn.old e hee).2.2] at hm
   exact hR.ebx e k (hOnσ e (hon e he hee)) (hbne k hk) hm
def mtK (W : List Nat) : List AF -> List V -> (List V -> Prop) -> Prop
 | [], [], K => K []
 | .d _ _ :: l, v :: vs, K => mtK W l vs fun u => K (v :: u)
 | .p j :: l, .one (.bx b o) :: vs, K => W[j]? = some b /\ o = 0 /\ mtK W l vs K
 | .fn g js :: l, .one (.fn g' bs) :: vs, K => g' = g /\ js.map (fun j => W[j]?) = bs.map some /\ mtK W l vs K
 | _, _, _ => False
theorem zzc {g : Gh} {W : List Nat} {bs : Nat -> Nat} (hb : ∀ j b, W[j]? = some b -> bs j = g.β b) : ∀ (js bs' : List Nat), js.map (fun j => W[j]?) = bs'.map some -> bs'.map (fun b => Value.pointer (some ⟨g.β b, 0, none⟩)) = js.map fun j => qe4 (bs j)
 | [], [], _ => rfl
 | [], _ :: _, e => by cases e
 | _ :: _, [], e => by cases e
 | j :: js, b :: bs', e => by
  simp only [List.map_cons, List.cons.injEq] at e
  rw [List.map_cons, List.map_cons, zzc hb js bs' e.2, hb j b e.1]
  rfl
theorem zem {σ : St} {g : Gh} {w : World} {W : List Nat} {bs : Nat -> Nat} (hb : ∀ j b, W[j]? = some b -> bs j = g.β b) : ∀ {l : List AF} {xs : List V} {K : List V -> Prop} {vs : List Value}, mtK W l xs K -> VRl σ g w xs vs →
  ∃ us dvs, K us /\ VRl σ g w us dvs /\ dvs.length = (AF.ds l).length /\ vs = AF.vals bs l dvs
 | [], [], K, vs, h, hv => ⟨[], [], h, rfl, rfl, hv⟩
 | .d _ _ :: l, x :: xs, K, vs, h, hv => by
  obtain ⟨v, vs', rfl, h1, h2⟩ := hv
  obtain ⟨us, dvs, k1, k2, k3, k4⟩ := zem hb (l := l) h h2
  exact ⟨x :: us, v :: dvs, k1, ⟨v, dvs, rfl, h1, k2⟩, by simp [AF.ds, k3], by rw [k4]; rfl⟩
 | .p j :: l, .one (.bx b o) :: xs, K, vs, h, hv => by
  obtain ⟨v, vs', rfl, h1, h2⟩ := hv
  obtain ⟨e1, rfl, h⟩ := h
  obtain ⟨us, dvs, k1, k2, k3, k4⟩ := zem hb (l := l) h h2
  refine ⟨us, dvs, k1, k2, k3, ?_⟩
  have h1 : CR σ g w (.bx b 0) v := h1
  rw [k4, h1.1, <- hb j b e1]
  rfl
 | .fn f js :: l, .one (.fn f' bs') :: xs, K, vs, h, hv => by
  obtain ⟨v, vs', rfl, h1, h2⟩ := hv
  obtain ⟨rfl, e1, h⟩ := h
  obtain ⟨us, dvs, k1, k2, k3, k4⟩ := zem hb (l := l) h h2
  refine ⟨us, dvs, k1, k2, k3, ?_⟩
  have h1 : CR σ g w (.fn f' bs') v := h1
  rw [k4, h1.1]
  rw [zzc hb js bs' e1]
  rfl
 | .d _ _ :: _, [], _, _, h, _ => h.elim
 | .p _ :: _, [], _, _, h, _ => h.elim
 | .fn _ _ :: _, [], _, _, h, _ => h.elim
 | [], _ :: _, _, _, h, _ => h.elim
 | .p _ :: _, .agg _ :: _, _, _, h, _ => h.elim
 | .p _ :: _, .tup _ :: _, _, _, h, _ => h.elim
 | .fn _ _ :: _, .agg _ :: _, _, _, h, _ => h.elim
 | .fn _ _ :: _, .tup _ :: _, _, _, h, _ => h.elim
 | .p _ :: _, .one (.t _) :: _, _, _, h, _ => h.elim
 | .p _ :: _, .one (.nl _) :: _, _, _, h, _ => h.elim
 | .p _ :: _, .one (.ow _ _) :: _, _, _, h, _ => h.elim
 | .p _ :: _, .one (.el _ _) :: _, _, _, h, _ => h.elim
 | .p _ :: _, .one (.eo _ _ _ _ _) :: _, _, _, h, _ => h.elim
 | .p _ :: _, .one (.fn _ _) :: _, _, _, h, _ => h.elim
 | .p _ :: _, .one (.cv _) :: _, _, _, h, _ => h.elim
 | .p _ :: _, .one .any :: _, _, _, h, _ => h.elim
 | .p _ :: _, .one (.rn _) :: _, _, _, h, _ => h.elim
 | .p _ :: _, .one (.er _ _) :: _, _, _, h, _ => h.elim
 | .fn _ _ :: _, .one (.t _) :: _, _, _, h, _ => h.elim
 | .fn _ _ :: _, .one (.nl _) :: _, _, _, h, _ => h.elim
 | .fn _ _ :: _, .one (.ow _ _) :: _, _, _, h, _ => h.elim
 | .fn _ _ :: _, .one (.el _ _) :: _, _, _, h, _ => h.elim
 | .fn _ _ :: _, .one (.eo _ _ _ _ _) :: _, _, _, h, _ => h.elim
 | .fn _ _ :: _, .one (.bx _ _) :: _, _, _, h, _ => h.elim
 | .fn _ _ :: _, .one (.cv _) :: _, _, _, h, _ => h.elim
 | .fn _ _ :: _, .one .any :: _, _, _, h, _ => h.elim
 | .fn _ _ :: _, .one (.rn _) :: _, _, _, h, _ => h.elim
 | .fn _ _ :: _, .one (.er _ _) :: _, _, _, h, _ => h.elim
def zy1 (σ : St) : List Nat -> Bxs -> (List V -> Prop) -> Prop
 | [], [], K => K []
 | k :: W, b :: bx, K => zas (σ.bx k) fun cs => cs.length = b.length /\ zy1 σ W bx fun l => K (cs.map .one ++ l)
 | _, _, _ => False
theorem zij {n0 : Nat -> Prop} {N : Nat} {σ : St} {g : Gh} {a : Act} {w : World} (hR : Rel n0 N σ g a w) {bs : Nat -> Nat} : ∀ {W : List Nat} {bx : Bxs} {j : Nat} {K : List V -> Prop}, (∀ i b, W[i]? = some b -> bs (j + i) = g.β b) -> zy1 σ W bx K →
  ∃ l bvs, K l /\ VRl σ g w l bvs.flatten /\ zxq w bs j bvs bx /\ W.length = bx.length /\ ∀ b ∈ W, σ.bx b ≠ none
 | [], [], j, K, _, h => ⟨[], [], h, rfl, trivial, rfl, fun b hb => by simp at hb⟩
 | k :: W, b :: bx, j, K, hb, h => by
  obtain ⟨cs, h1, h2, h3⟩ := zan h
  obtain ⟨l, bvs, k1, k2, k3, k4, k5⟩ := zij hR (W := W) (bx := bx) (j := j + 1) (fun i b hi => by have := hb (i + 1) b (by simpa using hi); rw [show j + (i + 1) = j + 1 + i by omega] at this; exact this) h3
  obtain ⟨us, ty, j1, j2⟩ := hR.boxes k cs h1
  have hk := hb 0 k rfl
  rw [Nat.add_zero] at hk
  refine ⟨_, us.toList :: bvs, k1, VRl.append j2.ones k2, ⟨by rw [j2.len, h2], ⟨ty, by rw [hk]; exact j1⟩, k3⟩, by simp [k4], fun x hx => ?_⟩
  rcases List.mem_cons.1 hx with rfl | hx
  ·rw [h1]; simp
  ·exact k5 x hx
 | [], _ :: _, _, _, _, h => h.elim
 | _ :: _, [], _, _, _, h => h.elim
theorem qar {σ : St} {K K' : List V -> Prop} (hK : ∀ l, K l -> K' l) : ∀ {W : List Nat} {bx : Bxs}, zy1 σ W bx K -> zy1 σ W bx K' := fun {W} => by
 induction W generalizing K K' with
 | nil => intro bx h; cases bx with
  | nil => exact hK _ h
  | cons _ _ => exact h.elim
 | cons k W ih => intro bx h; cases bx with
  | nil => exact h.elim
  | cons b bx =>
   obtain ⟨cs, h1, h2, h3⟩ := zan h
   show zas (σ.bx k) _
   rw [h1]
   exact ⟨h2, ih (fun l => hK _) h3⟩
theorem zv7 {W : List Nat} : ∀ {l : List AF} {xs : List V} {K K' : List V -> Prop}, (∀ u, K u -> K' u) -> mtK W l xs K -> mtK W l xs K' := fun {l} => by
 induction l with
 | nil => intro xs K K' hK h; cases xs with
  | nil => exact hK _ h
  | cons _ _ => exact h.elim
 | cons a l ih => intro xs K K' hK h; cases xs with
  | nil => cases a <;> exact h.elim
  | cons x xs =>
   cases a with
   | d b y => exact ih (fun u => hK _) h
   | p j =>
    cases x with
    | one c => cases c <;> first | exact h.elim | exact ⟨h.1, h.2.1, ih hK h.2.2⟩
    | agg _ => exact h.elim
    | tup _ => exact h.elim
   | fn g js =>
    cases x with
    | one c => cases c <;> first | exact h.elim | exact ⟨h.1, h.2.1, ih hK h.2.2⟩
    | agg _ => exact h.elim
    | tup _ => exact h.elim
def zgx (d : Nat) : Nat -> List Nat -> Bxs -> (Nat -> Option (List C)) -> (Nat -> Option (List C))
 | m, k :: W, b :: bx, f => upd (zgx d (m + b.length) W bx f) k (some (mC d m b))
 | _, _, _, f => f
theorem zjz (d : Nat) : ∀ (W : List Nat) (bx : Bxs) (m : Nat) (f : Nat -> Option (List C)) (b : Nat), b ∉ W -> zgx d m W bx f b = f b
 | [], _, _, _, _, _ => by unfold zgx; rfl
 | k :: W, [], _, _, _, _ => by unfold zgx; rfl
 | k :: W, c :: bx, m, f, b, hb => by
  unfold zgx
  rw [zam _ _ (fun e => hb (by simp [e]))]
  exact zjz d W bx _ f b fun h => hb (by simp [h])
theorem zss (d : Nat) : ∀ (W : List Nat) (bx : Bxs) (m : Nat) (f : Nat -> Option (List C)) (b : Nat), W.length = bx.length -> b ∈ W -> zgx d m W bx f b ≠ none
 | [], _, _, _, _, _, hb => by simp at hb
 | k :: W, [], _, _, _, hl, _ => by simp at hl
 | k :: W, c :: bx, m, f, b, hl, hb => by
  unfold zgx
  by_cases h : b = k
  ·subst h; rw [zah]; simp
  ·rw [zam _ _ h]
   exact zss d W bx _ f b (by simpa using hl) ((List.mem_cons.1 hb).resolve_left h)
theorem ziv {σ : St} {g : Gh} {w : World} {bs : Nat -> Nat} (d : Nat) {β : Nat -> Nat} : ∀ (W : List Nat) (bx : Bxs) (bvs : List (List Value)) (j m : Nat) (f : Nat -> Option (List C)), (∀ i b, W[i]? = some b -> bs (j + i) = β b) -> zxq w bs j bvs bx -> CRs σ g w (mC d m bx.flatten) bvs.flatten -> W.length = bx.length →
  ∀ b ∈ W, ∀ cs, zgx d m W bx f b = some cs -> ∃ vs ty, w.heap[β b]? = some (.cells vs ty (0, 0)) /\ CRs σ g w cs vs.toList
 | [], _, _, _, _, _, _, _, _, _, b, hb, _, _ => by simp at hb
 | k :: W, [], _, _, _, _, _, _, _, hl, _, _, _, _ => by simp at hl
 | k :: W, c :: bx, [], _, _, _, _, h0, _, _, _, _, _, _ => h0.elim
 | k :: W, c :: bx, vs :: bvs, j, m, f, hβ, h0, hc, hl, b, hb, cs, hs => by
  obtain ⟨h1, ⟨ty, h2⟩, h3⟩ := h0
  rw [List.flatten_cons, List.flatten_cons, zf8] at hc
  obtain ⟨v1, v2, e, c1, c2⟩ := hc.split
  obtain ⟨e1, e2⟩ := List.append_inj e (by rw [c1.len, zqj, h1])
  subst e1 e2
  unfold zgx at hs
  by_cases h : b = k
  ·subst h
   rw [zah] at hs
   cases hs
   have := hβ 0 b rfl
   rw [Nat.add_zero] at this
   exact ⟨⟨vs⟩, ty, by rw [<- this]; exact h2, c1⟩
  ·rw [zam _ _ h] at hs
   exact ziv d W bx bvs (j + 1) (m + c.length) f (fun i b hi => by have := hβ (i + 1) b (by simpa using hi); rw [show j + (i + 1) = j + 1 + i by omega] at this; exact this) h3 c2 (by simpa using hl) b ((List.mem_cons.1 hb).resolve_left h) cs hs
def St.callP (σ : St) (d : Nat) (W : List Nat) (bx' : Bxs) (res : List (Bool × D)) : St := { sl := upd σ.sl d (zly (mD d 0 res)), bx := zgx d (zbb res).length W bx' σ.bx, ev := mE d 0 (zbb res ++ bx'.flatten) σ.ev }
theorem CRs.split_flat {σ : St} {g : Gh} {w w' : World} {A : Nat -> Prop} {d m : Nat} {l : List (Bool × T)} {c : Bxs} {us vs : List Value} (h : CRs σ g w (mC d 0 (l ++ c.flatten)) (us ++ vs)) (hl : us.length = l.length) : CRs σ g w (mC d 0 l) us /\ CRs σ g w (mC d l.length c.flatten) vs := by
 rw [zf8] at h
 obtain ⟨v1, v2, e, c1, c2⟩ := h.split
 obtain ⟨e1, e2⟩ := List.append_inj e (by rw [c1.len, zqj, hl])
 subst e1 e2
 rw [Nat.zero_add] at c2
 exact ⟨c1, c2⟩
theorem zaw.one_vals {w : World} {A : Nat -> Prop} : ∀ {ds : List (Bool × D)} {vs : List Value} {fp tp : List Nat}, zaw w A ds vs fp tp -> (vs.flatMap fun u => u.cells.toList).length = (zbb ds).length := fun {ds vs fp tp} h => by
 obtain ⟨tp', h'⟩ := h.flat
 rw [zaw.len h']
 unfold bxA
 rw [List.length_map]
theorem qap {W : List Nat} {o : Oper} {σ : St} {τs : Nat -> V} {τe : Nat -> Option Ev} {τb : Nat -> Option (List C)} {x : Operand} {asx : Array Operand} {ts : Array TypeId} {f : FuncId} {cvs : List V} {d : Nat} {bx bx' : Bxs} {l : List AF} {res : List (Bool × D)} {ps : List (Nat × Nat × Nat)} (ho : o.op = .call ⟨.value x, asx, ts⟩) (hd : o.dst = some d)
  (h : PC P f bx l bx' res) (hc : zau (σ.get P 0 x) = some (f, cvs)) (hK : KeptB W σ ⟨τs, zgx d (zbb res).length W bx' τb, τe⟩) (hWn : W.Nodup)
  (hv : mtK W l (σ.gets P asx ts ++ cvs) fun us => zy1 σ W bx fun cs => gvA σ (fun u => ∀ s ∈ u, τe s.1 = none) [] ps (us ++ cs) (AF.ds l ++ bxA bx.flatten)) (hf : mF d 0 (zbb res ++ bx'.flatten) τe) : zag P o σ (St.callP ⟨τs, τb, τe⟩ d W bx' res) := by
 intro n0 N g a w hR hn hdN
 obtain ⟨vs, h1, h2⟩ := zc0 hR ho hc h.1
 unfold Oper.wp
 rw [h1]
 obtain ⟨B, hB⟩ := hR.fam
 let bs : Nat -> Nat := fun j => g.β (W.getD j 0)
 have hbs : ∀ j b, W[j]? = some b -> bs j = g.β b := fun j b hj => by show g.β (W.getD j 0) = _; rw [List.getD_eq_getElem?_getD, hj]; rfl
 obtain ⟨us, dvs, a1, a2, a3, rfl⟩ := zem hbs hv h2
 obtain ⟨cs, bvs, b1, b2, b3, b4, b5⟩ := zij hR (bs := bs) (j := 0) (fun i b hi => by rw [Nat.zero_add]; exact hbs i b hi) a1
 obtain ⟨s, k1, ⟨tp, k2⟩, k3, k4⟩ := ze2 hR hB b1 (VRl.append a2 b2)
 rw [List.append_nil] at k1 k4
 have hsp : s.Pairwise okP := (List.pairwise_reverse.1 (k4 List.Pairwise.nil)).imp fun h => h.symm
 have hnd := zd1 hR hB k3 hsp
 have hfp : ∀ b ∈ bks B s, ∃ e, σ.On e /\ τe e = none /\ b ∈ g.φ e := fun b hb => by
  obtain ⟨x, hx, hm⟩ := List.mem_flatMap.1 hb
  exact ⟨x.1, k3 x hx, k1 x (List.mem_reverse.2 hx), hB.sub x.1 x.2 b (k3 x hx) hm⟩
 have hfn : ∀ b, zcn σ g w b -> b ∉ bks B s := fun b hb hm => by obtain ⟨e, h1, _, h3⟩ := hfp b hm; exact hb.2 e h1 h3
 have hWj : ∀ j, j < bx.length -> ∃ b, W[j]? = some b /\ b ∈ W /\ bs j = g.β b := fun j hj => by
  have hlt : j < W.length := by omega
  exact ⟨W[j], List.getElem?_eq_getElem hlt, List.getElem_mem hlt, hbs j _ (List.getElem?_eq_getElem hlt)⟩
 have hWb : ∀ b ∈ W, ∃ j, j < bx.length /\ bs j = g.β b := fun b hb => by
  obtain ⟨j, hj, rfl⟩ := List.getElem_of_mem hb
  exact ⟨j, by omega, hbs j _ (List.getElem?_eq_getElem hj)⟩
 have hinj : ∀ i j, i < bx.length -> j < bx.length -> bs i = bs j -> i = j := fun i j hi hj he => by
  obtain ⟨b, e1, e2, e3⟩ := hWj i hi
  obtain ⟨c, f1, f2, f3⟩ := hWj j hj
  have : b = c := hR.inj b c (b5 b e2) (b5 c f2) (by rw [<- e3, <- f3]; exact he)
  subst this
  have hi' : i < W.length := by omega
  have hj' : j < W.length := by omega
  rw [List.getElem?_eq_getElem hi'] at e1
  rw [List.getElem?_eq_getElem hj'] at f1
  exact (List.getElem_inj hWn).1 ((Option.some.inj e1).trans (Option.some.inj f1).symm)
 have hbf : ∀ j, j < bx.length -> bs j ∉ bks B s := fun j hj hm => by
  obtain ⟨b, _, e2, e3⟩ := hWj j hj
  obtain ⟨e, h1, _, h3⟩ := hfp _ hm
  exact hR.ebx e b h1 (b5 b e2) (e3 ▸ h3)
 have hfb : ∀ b, zcn σ g w b -> ∀ j, j < bx.length -> b ≠ bs j := fun b hb j hj e => by
  obtain ⟨c, _, e2, e3⟩ := hWj j hj
  exact hb.1.1 c (b5 c e2) (by rw [<- e3, e])
 refine (h.2.2 w bs bvs dvs (bks B s) tp (zcn σ g w) hinj hbf b3 (zaw.keepA (fun b hb => ⟨⟨hb.1.2.2.1, hfn b hb, hfb b hb⟩, hb⟩) k2) hnd a3).mono ?_
 rintro e w' ⟨us', bvs', fp', tp', rfl, hbx', hlu, o1, o2, o3, hbk⟩
 obtain ⟨v1, v2, f1, f2, t1, t2, ev, ef, et, p1, p2⟩ := zaw.split o1
 obtain ⟨rfl, rfl⟩ := List.append_inj ev (by rw [hlu, zaw.len p1])
 subst ef
 obtain ⟨t1', p1'⟩ := p1.flat
 have pp := zaw.append p1' p2
 rw [<- zgo] at pp
 have hnew := New.refl ⟨τs, zgx d (zbb res).length W bx' τb, τe⟩ g (fun b => b ∈ bks B s \/ w.heap.size <= b) w' hR.slc
 obtain ⟨g', q1, q2, q3⟩ := New.mix (τ := ⟨τs, zgx d (zbb res).length W bx' τb, τe⟩) (g := g) (NB := fun b => b ∈ bks B s \/ w.heap.size <= b) (w' := w') d (zbb res ++ bx'.flatten) _ (f1 ++ f2) _ 0 τe g [] hnew hf pp o2 (fun b hb' => ⟨o3 b hb', by simp⟩)
 have hbk' : Bk (fun k => k < w.heap.size /\ k ∉ bks B s /\ ∀ b ∈ W, k ≠ g.β b) w w' := ⟨hbk.os, hbk.tape, hbk.output, hbk.size, fun k hk => hbk.block k ⟨hk.1, hk.2.1, fun j hj e => by
  obtain ⟨c, _, e2, e3⟩ := hWj j hj
  exact hk.2.2 c e2 (by rw [<- e3, e])⟩⟩
 have hfree : ∀ k, ((k < w'.heap.size /\ k ∉ f1 ++ f2 /\ ∀ j, j < bx.length -> k ≠ bs j) /\ (zcn σ g w k \/ w.heap.size <= k \/ k ∈ bks B s)) -> zcn ⟨τs, zgx d (zbb res).length W bx' τb, mE d 0 (zbb res ++ bx'.flatten) τe⟩ g' w' k := fun k hk => by
  have hOnσ : ∀ e, St.On ⟨τs, zgx d (zbb res).length W bx' τb, τe⟩ e -> σ.On e := fun e ⟨x, hx, ho⟩ => ⟨x, (hK.ev e x hx).1, ho⟩
  have hno : ∀ e, St.On ⟨τs, zgx d (zbb res).length W bx' τb, mE d 0 (zbb res ++ bx'.flatten) τe⟩ e -> k ∉ g'.φ e := fun e ho' hm => by
   by_cases hee : τe e = none
   ·obtain ⟨x, hx, _⟩ := ho'
    have := ((q1.new e x hee hx).2.2.1 k hm).2
    rw [List.nil_append] at this
    exact hk.1.2.1 this
   ·rw [(q1.old e hee).2.2] at hm
    obtain ⟨x, hx, hon⟩ := ho'
    have ho2 : St.On ⟨τs, zgx d (zbb res).length W bx' τb, τe⟩ e := ⟨x, (q1.old e hee).1.symm.trans hx, hon⟩
    rcases hk.2 with h | h | h
    ·exact h.2 e (hOnσ e ho2) hm
    ·obtain ⟨y, hy, hyo⟩ := hOnσ e ho2
     have := (hR.evs e y hy hyo).lt k hm; omega
    ·obtain ⟨e', h1, h2, h3⟩ := hfp k h
     refine hR.apart e e' (hOnσ e ho2) h1 (fun ee => ?_) k hm h3
     subst ee
     obtain ⟨y, hy, _⟩ := ho2
     have hy : τe e = some y := hy
     rw [h2] at hy; cases hy
  have hbne : ∀ b, zgx d (zbb res).length W bx' τb b ≠ none -> σ.bx b ≠ none := fun b hb => by
   by_cases hbW : b ∈ W
   ·exact (hK.bxW b hbW).1
   obtain ⟨cs, hcs⟩ := Option.ne_none_iff_exists'.1 hb
   rw [(hK.bx b cs hbW hcs).1]; simp
  refine ⟨⟨fun j hj e => ?_, fun e x hx hon hh => hno e ⟨x, hx, hon⟩ (List.mem_of_mem_head? hh), hk.1.1, ?_⟩, hno⟩
  ·have hj' := hbne j hj
   rw [q1.β] at e
   rcases hk.2 with h | h | h
   ·exact h.1.1 j hj' e
   ·have := hR.lt hj'; omega
   ·obtain ⟨e', h1, _, h3⟩ := hfp k h
    exact hR.ebx e' j h1 hj' (e ▸ h3)
  ·rw [q1.A0]
   rcases hk.2 with h | h | h
   ·exact h.1.2.2.2
   ·exact (hR.anew k (hn.new h)).1
   ·obtain ⟨e', h1, _, h3⟩ := hfp k h
    exact (hR.ebase e' h1 k h3).1
 have hcr := q3 ⟨τs, zgx d (zbb res).length W bx' τb, mE d 0 (zbb res ++ bx'.flatten) τe⟩ w' rfl fun t v h => zaq.keep (fun _ _ => rfl) hfree t v h
 obtain ⟨hc1, hc2⟩ := hcr.split_flat (A := fun _ => True) (w' := w') (m := 0) (zaw.one_vals p1)
 have hR' := hR.givenB hn hK (fun b hb => by obtain ⟨e, x1, x2, x3⟩ := hfp b hb; exact ⟨e, x1, x2, x3⟩) hbk' q1 (ziv d W bx' bvs' 0 (zbb res).length τb (fun i b hi => by rw [Nat.zero_add]; exact hbs i b hi) hbx' hc2 (by rw [h.2.1]; omega))
 have hBk : Bk n0 w w' := ⟨hbk.os, hbk.tape, hbk.output, hbk.size, fun k hk => hbk.block k ⟨hn k hk, fun hm => by
  obtain ⟨e, h1, _, h3⟩ := hfp k hm
  exact hR.etop e h1 k h3 hk, fun j hj e => by
  obtain ⟨c, _, e2, e3⟩ := hWj j hj
  exact hR.base c (b5 c e2) (by rw [<- e3, <- e]; exact hk)⟩⟩
 refine ⟨g', ?_, hBk, q1.A0, q1.R0⟩
 have hp := hR'.put (some d) (x := zly (mD d 0 res)) (v := zbz us') (zd5 (ztg d 0 p1 hc1) (zpr d res 0)) (fun i hi => by cases hi; exact hdN d hd)
 rw [hd]
 exact hp
end Go.Proofs.YtbccfiillleimaaGreat
namespace Go.Proofs.YtbccfiillleimaaGreat
set_option linter.unusedSimpArgs false
set_option linter.unusedVariables false
set_option linter.unusedSectionVars false
set_option maxRecDepth 4000
open Go.RowKit
variable {P : Program}
def subN : List Nat -> List Nat -> Prop
 | [], _ => True
 | x :: xs, l => noK x l = false /\ subN xs l
theorem qbf : ∀ {x : Nat} {l : List Nat}, noK x l = false -> x ∈ l
 | _, [], h => by cases h
 | x, y :: l, h => by
  unfold noK at h
  by_cases e : x = y
  ·simp [e]
  ·rw [if_neg e] at h; exact List.mem_cons_of_mem _ (qbf h)
theorem zjy : ∀ {xs l : List Nat}, subN xs l -> ∀ x ∈ xs, x ∈ l
 | [], _, _, x, hx => by simp at hx
 | y :: xs, l, h, x, hx => by
  rcases List.mem_cons.1 hx with rfl | hx
  ·exact qbf h.1
  ·exact zjy h.2 x hx
theorem zj8 {σ : St} : ∀ (L : List Nat) (i : Nat), (i ∈ L -> zg9 (σ.lL L) i = σ.sl i) /\ (i ∉ L -> zg9 (σ.lL L) i = .one .any)
 | [], i => ⟨fun h => by simp at h, fun _ => rfl⟩
 | j :: L, i => by
  show (_ -> (if i = j then σ.sl j else zg9 (σ.lL L) i) = _) /\ (_ -> (if i = j then σ.sl j else zg9 (σ.lL L) i) = _)
  by_cases h : i = j
  ·subst h; rw [if_pos rfl]; exact ⟨fun _ => rfl, fun h => by simp at h⟩
  ·rw [if_neg h]
   exact ⟨fun hm => (zj8 L i).1 ((List.mem_cons.1 hm).resolve_left h), fun hm => (zj8 L i).2 fun h' => hm (List.mem_cons_of_mem _ h')⟩
theorem zfc {α : Type} (f : Nat -> α) : ∀ (L : List Nat) (i : Nat), (i ∈ L -> tbl (L.map fun b => (b, f b)) i = some (f i)) /\ (i ∉ L -> tbl (L.map fun b => (b, f b)) i = none)
 | [], i => ⟨fun h => by simp at h, fun _ => rfl⟩
 | j :: L, i => by
  show (_ -> (if i = j then some (f j) else tbl (L.map fun b => (b, f b)) i) = _) /\ (_ -> (if i = j then some (f j) else tbl (L.map fun b => (b, f b)) i) = _)
  by_cases h : i = j
  ·subst h; rw [if_pos rfl]; exact ⟨fun _ => rfl, fun h => by simp at h⟩
  ·rw [if_neg h]
   exact ⟨fun hm => (zfc f L i).1 ((List.mem_cons.1 hm).resolve_left h), fun hm => (zfc f L i).2 fun h' => hm (List.mem_cons_of_mem _ h')⟩
def blank (W : List Nat) (f : Nat -> Option (List C)) : Nat -> Option (List C)
 | b => if noK b W = true then f b else some []
theorem qfl (W : List Nat) (f : Nat -> Option (List C)) (b : Nat) : blank W f b = if noK b W = true then f b else some [] := rfl
def St.wB (σ : St) (W : List Nat) : St := ⟨σ.sl, blank W σ.bx, σ.ev⟩
def St.BW (σ : St) (L W : List Nat) : List Nat := dif W ((σ.wB W).KB L)
def St.EW (σ : St) (L W : List Nat) : List Nat := (σ.wB W).KE L
def St.hW (σ : St) (L W : List Nat) : St := ⟨zg9 (σ.lL L), tbl (σ.lB (σ.BW L W)), tbl (σ.lE (σ.EW L W))⟩
section
variable {ks : List Fr} {Q : Exit -> St -> Prop} {σ : St} {ops : Array Oper} {os : List Oper} {ty : TypeId} {ps : String} {af : Array Edge} {d : Nat} {x : Operand} {asx : Array Operand} {ts : Array TypeId} {f : FuncId} {bx bx' : Bxs} {l : List AF} {res : List (Bool × D)}
theorem zvu (L A W : List Nat) (pl : List (Nat × Nat × Nat)) (h : PC P f bx l bx' res) (hWn : W.Nodup) (hWl : W.length = bx'.length) (hw : wkK σ (A ++ L))
  (hk : subN (σ.BW L W) (σ.KB (A ++ L)) /\ subN W (σ.KB (A ++ L)) /\ subN (σ.EW L W) (σ.KE (A ++ L)) /\ okL ⟨zg9 (σ.lL L), zgx d (zbb res).length W bx' (tbl (σ.lB (σ.BW L W))), tbl (σ.lE (σ.EW L W))⟩ (σ.lL L) /\ okB ⟨zg9 (σ.lL L), zgx d (zbb res).length W bx' (tbl (σ.lB (σ.BW L W))), tbl (σ.lE (σ.EW L W))⟩ (σ.lB (σ.BW L W)) /\ okE (σ.lE (σ.EW L W)))
  (hp : zas (zau ((σ.hL (A ++ L)).get P 0 x)) fun p => p.1 = f /\ mtK W l ((σ.hL (A ++ L)).gets P asx ts ++ p.2) fun us => zy1 (σ.hL (A ++ L)) W bx fun cs => gvA (σ.hL (A ++ L)) (zpw (σ.lE (σ.EW L W))) [] pl (us ++ cs) (AF.ds l ++ bxA bx.flatten))
  (hf : mF d 0 (zbb res ++ bx'.flatten) (tbl (σ.lE (σ.EW L W))))
  (k : exo P ops os ks Q ((σ.hW L W).callP d W bx' res)) : exo P ops (⟨some d, .call ⟨.value x, asx, ts⟩, ty, ps, af, none⟩ :: os) ks Q σ := by
 obtain ⟨⟨f', cvs⟩, h1, rfl, h2⟩ := zan hp
 obtain ⟨k1, k2, k3, k4, k5, k6⟩ := hk
 have hK : KeptB W (σ.hL (A ++ L)) ⟨zg9 (σ.lL L), zgx d (zbb res).length W bx' (tbl (σ.lB (σ.BW L W))), tbl (σ.lE (σ.EW L W))⟩ := by
  refine ⟨fun i => ?_, fun b cs hb hcs => ?_, fun b hb => ⟨?_, zss d W bx' _ _ b hWl hb⟩, fun e x he => ?_⟩
  ·by_cases hi : i ∈ L
   ·refine Or.inr ⟨?_, zn3 k4 i⟩
    show zg9 (σ.lL L) i = zg9 (σ.lL (A ++ L)) i
    rw [(zj8 L i).1 hi, (zj8 (A ++ L) i).1 (List.mem_append_right _ hi)]
   ·exact Or.inl ((zj8 L i).2 hi)
  ·have hcs : zgx d (zbb res).length W bx' (tbl (σ.lB (σ.BW L W))) b = some cs := hcs
   rw [zjz d W bx' _ _ b hb] at hcs
   by_cases hm : b ∈ σ.BW L W
   ·refine ⟨?_, zni k5 b cs hcs⟩
    have e1 := (zfc (fun b => (σ.bx b).getD []) (σ.BW L W) b).1 hm
    have e2 := (zfc (fun b => (σ.bx b).getD []) (σ.KB (A ++ L)) b).1 (zjy k1 b hm)
    have e1 : tbl (σ.lB (σ.BW L W)) b = some ((σ.bx b).getD []) := e1
    rw [e1] at hcs
    cases hcs
    exact e2
   ·have e1 := (zfc (fun b => (σ.bx b).getD []) (σ.BW L W) b).2 hm
    have e1 : tbl (σ.lB (σ.BW L W)) b = none := e1
    rw [e1] at hcs; cases hcs
  ·have e2 := (zfc (fun b => (σ.bx b).getD []) (σ.KB (A ++ L)) b).1 (zjy k2 b hb)
   have e2 : (σ.hL (A ++ L)).bx b = some ((σ.bx b).getD []) := e2
   rw [e2]; simp
  ·have he : tbl (σ.lE (σ.EW L W)) e = some x := he
   by_cases hm : e ∈ σ.EW L W
   ·refine ⟨?_, zok k6 e x he⟩
    have e1 := (zfc (fun e => (σ.ev e).getD ⟨false, 0, [], 0, false⟩) (σ.EW L W) e).1 hm
    have e2 := (zfc (fun e => (σ.ev e).getD ⟨false, 0, [], 0, false⟩) (σ.KE (A ++ L)) e).1 (zjy k3 e hm)
    have e1 : tbl (σ.lE (σ.EW L W)) e = some ((σ.ev e).getD ⟨false, 0, [], 0, false⟩) := e1
    rw [e1] at he
    cases he
    exact e2
   ·have e1 := (zfc (fun e => (σ.ev e).getD ⟨false, 0, [], 0, false⟩) (σ.EW L W) e).2 hm
    have e1 : tbl (σ.lE (σ.EW L W)) e = none := e1
    rw [e1] at he; cases he
 refine zcr rfl rfl (zag.pre (wkK_wk hw) (qap (P := P) (o := ⟨some d, .call ⟨.value x, asx, ts⟩, ty, ps, af, none⟩) rfl rfl h h1 hK hWn (ps := pl) ?_ hf)) k
 exact zv7 (fun us hu => qar (fun cs hc => zgh (fun u hu => zhs hu) hc) hu) h2
end
def mkZ (P : Program) (t : TypeId) : List (List C) := match (elT P t).bind (zc8 P) with
 | some z => [z]
 | none => []
def mkEv (d : Nat) : Option (Prop × Ev) -> List (Nat × Ev)
 | some (_, y) => [(d * 32, y)]
 | none => []
theorem qkq {σ σ1 : St} {t : TypeId} {l c : Operand} (h : ∀ k ∈ zat [l, c] ++ rK (mkZ P t), za3 σ σ1 k) : mkD P σ1 t l c = mkD P σ t l c := by
 have e1 : σ1.get P 0 l = σ.get P 0 l := zb9 (l := [l, c]) (fun k hk => h k (by simp [hk])) (by simp) 0
 have e2 : σ1.get P 0 c = σ.get P 0 c := zb9 (l := [l, c]) (fun k hk => h k (by simp [hk])) (by simp) 0
 unfold mkD
 rw [e1, e2]
 unfold mkZ at h
 cases hel : elT P t with
 | none => rfl
 | some el =>
  simp only [Option.bind_some]
  rw [hel] at h
  cases hz : zc8 P el with
  | none => simp only [Option.bind_none]
  | some z =>
   rw [Option.bind_some, hz] at h
   have e3 : zr1 σ1 z = zr1 σ z := zjs fun k hk => h k (by simp [rK, hk])
   simp only [Option.bind_some, e3]
section
variable {ks : List Fr} {Q : Exit -> St -> Prop} {σ : St} {ops : Array Oper} {os : List Oper} {L : List (List Ky × List Ky)} {ty : TypeId} {ps : String} {af : Array Edge} {d : Nat} {l c : Operand} {t : TypeId}
theorem dMakeD (h : zas (mkD P σ t l c) fun r => r.1 /\ σ.ev (d * 32) = none)
  (k : exd P ops os (L ++ [(zat [l, c] ++ (rK (mkZ P t) ++ [(2, d * 32)]), dK (some d) ++ eK (mkEv d (mkD P σ t l c)))]) ks Q ((σ.mk1 d (mkD P σ t l c)).put (some d) (.one (.ow (d * 32) 0)))) :
  exd P ops (⟨some d, .makeSlice t l c, ty, ps, af, none⟩ :: os) L ks Q σ := by
 obtain ⟨⟨p, y⟩, h1, h2, h3⟩ := zan h
 rw [h1] at k
 have hloc : ∀ σ1, (∀ k ∈ zat [l, c] ++ (rK (mkZ P t) ++ [(2, d * 32)]), za3 σ σ1 k) -> mkD P σ1 t l c = some (p, y) /\ σ1.ev (d * 32) = none := fun σ1 hs =>
  ⟨(qkq fun k hk => hs k (by simp only [List.mem_append] at hk ⊢; rcases hk with hk | hk <;> simp [hk])).trans h1, (Eq.symm (hs (2, d * 32) (by simp))).trans h3⟩
 refine zg2 rfl rfl ?_ k
 show zg0 P _ _ _ σ ((σ.apd (d * 32) [] y).put (some d) _)
 rw [zdw]
 refine zg0.of (o := ⟨some d, _, ty, ps, af, none⟩) (l := [(d * 32, y)]) (zbf (zbt _) (zbf (qbw _) rfl)) fun σ1 hs => ?_
 obtain ⟨h1, h3⟩ := hloc σ1 hs
 show zag P _ σ1 ((σ1.upE ((d * 32, y) :: zsj [])).put _ _)
 rw [<- zdw]
 unfold mkD at h1
 obtain ⟨el, e1, h1⟩ := Option.bind_eq_some_iff.1 h1
 obtain ⟨n, e2, h1⟩ := Option.bind_eq_some_iff.1 h1
 obtain ⟨bts, e3, h1⟩ := Option.bind_eq_some_iff.1 h1
 obtain ⟨z, e4, h1⟩ := Option.bind_eq_some_iff.1 h1
 obtain ⟨⟨q1, q2⟩, e5, h1⟩ := Option.bind_eq_some_iff.1 h1
 split at h1
 ·rename_i kl a kc b hl hc
  split at h1
  ·rename_i hh
   obtain ⟨k1, k2, k3⟩ := hh
   have : q2 = [] := List.eq_nil_of_length_eq_zero k2
   subst this
   simp only [Option.some.injEq, Prod.mk.injEq] at h1
   obtain ⟨rfl, rfl⟩ := h1
   exact qjj e1 e2 e3 e4 k1 e5 hl hc k3 h2.1 h2.2.1 h2.2.2 h3
  ·cases h1
 ·cases h1
end
def zw7 : Option (Nat × Ev × List (Nat × Ev)) -> List Ky
 | some (e, _, _) => [(2, e)]
 | none => []
def stoW : Option (Nat × Ev × List (Nat × Ev)) -> List (Nat × Ev)
 | some (e, y, cons) => (e, y) :: zsj cons
 | none => []
theorem qhr {σ σ1 : St} {t : TypeId} {x y : Operand} (h : ∀ k ∈ zat [x, y] ++ (rK [(σ.get P t y).cells] ++ zw7 (zr2 P σ t x y)), za3 σ σ1 k) {r : Nat × Ev × List (Nat × Ev)} (hr : zr2 P σ t x y = some r) : zr2 P σ1 t x y = some r := by
 have e1 : σ1.get P 0 x = σ.get P 0 x := zb9 (l := [x, y]) (fun k hk => h k (by simp [hk])) (by simp) 0
 have e2 : σ1.get P t y = σ.get P t y := zb9 (l := [x, y]) (fun k hk => h k (by simp [hk])) (by simp) t
 have e3 : zr1 σ1 (σ.get P t y).cells = zr1 σ (σ.get P t y).cells := zjs fun k hk => h k (by simp [rK, hk])
 rw [hr] at h
 rw [<- hr]
 unfold zr2 at hr ⊢
 rw [e1, e2]
 split at hr
 ·rename_i e g sz i o hx
  obtain ⟨z, hz, hr⟩ := Option.bind_eq_some_iff.1 hr
  obtain ⟨n, hn, hr⟩ := Option.bind_eq_some_iff.1 hr
  split at hr
  ·obtain ⟨q, _, hr⟩ := Option.map_eq_some_iff.1 hr
   subst hr
   have e4 : σ1.ev e = σ.ev e := Eq.symm (h (2, e) (by simp [zw7]))
   simp only [e4, e3]
  ·cases hr
 ·cases hr
section
variable {ks : List Fr} {Q : Exit -> St -> Prop} {σ : St} {ops : Array Oper} {os : List Oper} {L : List (List Ky × List Ky)} {ty : TypeId} {ps : String} {af : Array Edge} {ds : Option Nat} {x y : Operand} {t : TypeId}
theorem qh2 (r : Option (Nat × Ev × List (Nat × Ev))) : okK (zw7 r) = true := by
 cases r with
 | none => rfl
 | some r => rfl
theorem qmp (h : zas (zr2 P σ t x y) fun r => (r.2.2.map (·.1)).Nodup /\ ∀ p ∈ r.2.2, p.1 ≠ r.1)
  (k : exd P ops os (L ++ [(zat [x, y] ++ (rK [(σ.get P t y).cells] ++ zw7 (zr2 P σ t x y)), dK ds ++ eK (stoW (zr2 P σ t x y)))]) ks Q ((σ.apdO (zr2 P σ t x y)).put ds (.one .any))) : exdS P ops ⟨ds, .store t x y, ty, ps, af, none⟩ os L ks Q σ := by
 obtain ⟨⟨e, z, cons⟩, h1, h2, h3⟩ := zan h
 refine ⟨_, _, _, ?_, k⟩
 have hloc : ∀ σ1, (∀ k ∈ zat [x, y] ++ (rK [(σ.get P t y).cells] ++ zw7 (zr2 P σ t x y)), za3 σ σ1 k) -> zr2 P σ1 t x y = some (e, z, cons) := fun σ1 hs => qhr hs h1
 rw [h1]
 show zg0 P _ _ (dK ds ++ eK ((e, z) :: zsj cons)) σ ((σ.apd e cons z).put ds _)
 rw [zdw]
 rw [h1] at hloc
 refine zg0.of (o := ⟨ds, _, ty, ps, af, none⟩) (l := (e, z) :: zsj cons) (zbf (zbt _) (zbf (qbw _) (qh2 _))) fun σ1 hs => ?_
 have hh := hloc σ1 hs
 have hs2 := zv6 (σ := σ1) (ty := ty) (ps := ps) (af := af) (ds := ds) (x := x) (y := y) (t := t) (P := P) (by rw [hh]; exact ⟨h2, h3⟩)
 rw [hh] at hs2
 have hs2 : zag P ⟨ds, .store t x y, ty, ps, af, none⟩ σ1 ((σ1.apd e cons z).put ds (.one .any)) := hs2
 rw [zdw] at hs2
 exact hs2
end
attribute [go_sem] mkZ mkEv zw7 stoW AF.ds c1P zv1 zk5 zdf zi5 zin bxE PB PB0 mtK zy1 zgx St.callP subN qfl St.wB St.BW St.EW St.hW bxA List.flatten_cons List.flatten_nil
end Go.Proofs.YtbccfiillleimaaGreat
namespace Go.Proofs.YtbccfiillleimaaGreat
set_option linter.unusedSimpArgs false
set_option linter.unusedVariables false
set_option linter.unusedSectionVars false
set_option maxRecDepth 4000
open Go.RowKit
variable {P : Program}
theorem Rel.afterB {W : List Nat} {bx' : Nat -> Option (List C)} {n0 : Nat -> Prop} {N : Nat} {σ : St} {g g' : Gh} {a : Act} {w w' : World} {ev' : Nat -> Option Ev} {F : List Nat} (h : Rel n0 N σ g a w) (hn0 : LtK n0 w) (hb : Bk (fun k => k < w.heap.size /\ ∀ b ∈ W, k ≠ g.β b) w w') (hdom : ∀ b, bx' b ≠ none ↔ σ.bx b ≠ none) (hsm : ∀ b, b ∉ W -> bx' b = σ.bx b) (hWσ : ∀ b ∈ W, σ.bx b ≠ none) (hn : New σ g (w.heap.size <= ·) w' ev' g' F) (hW : ∀ b ∈ W, ∀ cs, bx' b = some cs -> ∃ vs ty, w'.heap[g.β b]? = some (.cells vs ty (0, 0)) /\ CRs ⟨σ.sl, bx', ev'⟩ g' w' cs vs.toList) : Rel n0 N ⟨σ.sl, bx', ev'⟩ g' a w' := by
 have hlt : ∀ e x, σ.ev e = none -> ev' e = some x -> ∀ b ∈ g'.φ e, w.heap.size <= b := fun e x h1 h2 b hbb => ((hn.new e x h1 h2).2.2.1 b hbb).1
 have hold : ∀ e, σ.On e -> ∀ b ∈ g.φ e, b < w.heap.size := fun e he b hbb => by
  obtain ⟨x, hx, ho⟩ := he
  exact (h.evs e x hx ho).lt b hbb
 have hon : ∀ e, St.On ⟨σ.sl, bx', ev'⟩ e -> σ.ev e ≠ none -> σ.On e := fun e he hee => by
  obtain ⟨x, hx, ho⟩ := he
  exact ⟨x, (hn.old e hee).1.symm.trans hx, ho⟩
 have hne : ∀ e, St.On ⟨σ.sl, bx', ev'⟩ e -> ∃ x, ev' e = some x := fun e he => ⟨_, he.choose_spec.1⟩
 have m : Mv σ ⟨σ.sl, bx', ev'⟩ g g' w w' := by
  refine ⟨fun b hf => hb.block b ⟨hf.2.2.1, fun k hk e => hf.1 k (hWσ k hk) e.symm⟩, fun b hf => ⟨fun k hk => by rw [hn.β]; exact hf.1 k ((hdom k).1 hk), fun e x hx ho hh => ?_, Nat.lt_of_lt_of_le hf.2.2.1 hb.size, by rw [hn.A0]; exact hf.2.2.2⟩, fun b hbb => ⟨by rw [hn.β], (hdom b).2 hbb⟩, fun e n he => ?_, fun b hf e he hm => ?_⟩
  ·by_cases hee : σ.ev e = none
   ·have := hlt e x hee hx b (List.mem_of_mem_head? hh)
    have := hf.2.2.1
    omega
   ·rw [(hn.old e hee).2.2] at hh
    exact hf.2.1 e x ((hn.old e hee).1.symm.trans hx) ho hh
  ·obtain ⟨x, hx, hg⟩ := he
   have hee : σ.ev e ≠ none := by rw [hx]; simp
   exact ⟨⟨x, (hn.old e hee).1.trans hx, hg⟩, by rw [(hn.old e hee).2.1]⟩
  ·by_cases hee : σ.ev e = none
   ·obtain ⟨x, hx⟩ := hne e he
    have := hlt e x hee hx b hm
    have := hf.1.2.2.1
    omega
   ·rw [(hn.old e hee).2.2] at hm
    exact hf.2 e (hon e he hee) hm
 refine ⟨h.defers, h.size, by rw [hn.A0, hn.R0]; exact h.anew, fun i => by rw [hn.R0]; exact m.vr (h.slots i), fun b cs hbb => ?_, fun b hbb => by rw [hn.β]; exact h.base b ((hdom b).1 hbb), fun b b' h1 h2 h3 => by rw [hn.β] at h3; exact h.inj b b' ((hdom b).1 h1) ((hdom b').1 h2) h3, fun e x he ho => ?_, fun e x he ho => ?_, hn.slc, fun e he b hbb => ?_, fun e he b hbb => ?_, fun e he => ?_, fun e e' h1 h2 hne' b hb1 hb2 => ?_, fun e k he hk hm => ?_⟩
 ·by_cases hbW : b ∈ W
  ·rw [hn.β]; exact hW b hbW cs hbb
  have hbb : bx' b = some cs := hbb
  rw [hsm b hbW] at hbb
  obtain ⟨vs, ty, k1, k2⟩ := h.boxes b cs hbb
  have hne0 : σ.bx b ≠ none := by rw [hbb]; simp
  exact ⟨vs, ty, by rw [hn.β, hb.block _ ⟨h.lt hne0, fun k hk e => hbW (h.inj b k hne0 (hWσ k hk) e ▸ hk)⟩]; exact k1, m.crs k2⟩
 ·by_cases hee : σ.ev e = none
  ·obtain ⟨⟨k1, _, k0⟩, k2, k3, k4⟩ := hn.new e x hee he
   rw [k0]
   unfold zax at k2
   obtain ⟨ao, cap, j1, j2, j3, j4⟩ := k2
   refine ⟨ao, cap, j1, j2, j3, ?_⟩
   rcases j4 with j4 | ⟨b, cells, ty, fps, j4, j5, j6, j7, j8⟩
   ·exact Or.inl j4
   ·exact Or.inr ⟨b, cells, ty, fps, j4, j5, j6, j7, by rw [if_pos k1]; exact j8⟩
  ·have he' := he
   simp only [(hn.old e hee).1] at he
   rw [(hn.old e hee).2.1, (hn.old e hee).2.2]
   exact m.evr (h.evs e x he ho) fun b hbb => hb.block b ⟨hold e ⟨x, he, ho⟩ b hbb, fun k hk e' => h.ebx e k ⟨x, he, ho⟩ (hWσ k hk) (e' ▸ hbb)⟩
 ·by_cases hee : σ.ev e = none
  ·obtain ⟨⟨_, k1, _⟩, _⟩ := hn.new e x hee he
   rw [k1] at ho; cases ho
  ·simp only [(hn.old e hee).1] at he
   rw [(hn.old e hee).2.1]
   exact ⟨m.rep (h.offs e x he ho).1, (h.offs e x he ho).2⟩
 ·by_cases hee : σ.ev e = none
  ·obtain ⟨x, hx⟩ := hne e he
   rw [hn.A0, hn.R0]
   exact h.anew b (hn0.new (hlt e x hee hx b hbb))
  ·rw [(hn.old e hee).2.2] at hbb
   rw [hn.A0, hn.R0]
   exact h.ebase e (hon e he hee) b hbb
 ·by_cases hee : σ.ev e = none
  ·obtain ⟨x, hx⟩ := hne e he
   exact hn0.new (hlt e x hee hx b hbb)
  ·rw [(hn.old e hee).2.2] at hbb
   exact h.etop e (hon e he hee) b hbb
 ·by_cases hee : σ.ev e = none
  ·obtain ⟨x, hx⟩ := hne e he
   exact (hn.new e x hee hx).2.2.2
  ·rw [(hn.old e hee).2.2]; exact h.nodup e (hon e he hee)
 ·obtain ⟨x, hx⟩ := hne e h1
  obtain ⟨x', hx'⟩ := hne e' h2
  by_cases e1 : σ.ev e = none <;> by_cases e2 : σ.ev e' = none
  ·exact hn.apart e e' e1 e2 (by rw [hx]; simp) (by rw [hx']; simp) hne' b hb1 hb2
  ·rw [(hn.old e' e2).2.2] at hb2
   have := hlt e x e1 hx b hb1
   have := hold e' (hon e' h2 e2) b hb2
   omega
  ·rw [(hn.old e e1).2.2] at hb1
   have := hlt e' x' e2 hx' b hb2
   have := hold e (hon e h1 e1) b hb1
   omega
  ·rw [(hn.old e e1).2.2] at hb1
   rw [(hn.old e' e2).2.2] at hb2
   exact h.apart e e' (hon e h1 e1) (hon e' h2 e2) hne' b hb1 hb2
 ·rw [hn.β] at hm
  by_cases hee : σ.ev e = none
  ·obtain ⟨x, hx⟩ := hne e he
   have := hlt e x hee hx _ hm
   have := h.lt ((hdom k).1 hk)
   omega
  ·rw [(hn.old e hee).2.2] at hm
   exact h.ebx e k (hon e he hee) ((hdom k).1 hk) hm
def gvQ : List V -> List (Bool × D) -> Prop
 | [], [] => True
 | v :: vs, (false, d) :: ds => rdV v d /\ gvQ vs ds
 | .one (.t x) :: vs, (true, .one t) :: ds => x = t /\ t.flat = true /\ gvQ vs ds
 | _, _ => False
theorem qfp {w : World} {A : Nat -> Prop} {t : T} {v : Value} (hf : t.flat = true) (h : zaq w A t v) : zax w t v [] /\ zjg t [] = [] := by
 cases t <;> simp only [T.flat, Bool.false_eq_true] at hf
 ·unfold zaq at h; unfold zax; exact ⟨⟨h.1, h.2.1, h.2.2, rfl⟩, rfl⟩
 ·unfold zaq at h; unfold zax; exact ⟨⟨h, rfl⟩, rfl⟩
 ·unfold zaq at h; unfold zax; exact ⟨⟨h.1, h.2, rfl⟩, rfl⟩
 ·unfold zaq at h; unfold zax; exact ⟨⟨h, rfl⟩, rfl⟩
theorem zh2 {σ : St} {g : Gh} {w : World} : ∀ {xs : List V} {ds : List (Bool × D)} {vs : List Value}, gvQ xs ds -> VRl σ g w xs vs -> zaw w (zcn σ g w) ds vs [] []
 | [], [], vs, _, hv => ⟨hv, rfl, rfl⟩
 | [], _ :: _, _, h, _ => h.elim
 | x :: xs, [], _, h, _ => by cases x with
  | one c => cases c <;> exact h.elim
  | agg _ => exact h.elim
  | tup _ => exact h.elim
 | x :: xs, (false, d) :: ds, vs, h, hv => by
  obtain ⟨v, vs', rfl, h1, h2⟩ := hv
  have h : rdV x d /\ gvQ xs ds := by cases x with
   | one c => cases c <;> exact h
   | agg _ => exact h
   | tup _ => exact h
  exact ⟨v, vs', rfl, zzo h.1 h1, zh2 h.2 h2⟩
 | .one (.t x) :: xs, (true, .one t) :: ds, vs, h, hv => by
  obtain ⟨v, vs', rfl, h1, h2⟩ := hv
  obtain ⟨rfl, hf, h⟩ := h
  obtain ⟨k1, k2⟩ := qfp hf h1
  exact ⟨v, vs', [], [], [], [], rfl, rfl, rfl, ⟨k1, k2.symm⟩, zh2 h h2⟩
 | x :: _, (true, .agg _) :: _, _, h, _ => by cases x with
  | one c => cases c <;> exact h.elim
  | agg _ => exact h.elim
  | tup _ => exact h.elim
 | .one (.nl _) :: _, (true, .one _) :: _, _, h, _ => h.elim
 | .one (.ow _ _) :: _, (true, .one _) :: _, _, h, _ => h.elim
 | .one (.bx _ _) :: _, (true, .one _) :: _, _, h, _ => h.elim
 | .one (.el _ _) :: _, (true, .one _) :: _, _, h, _ => h.elim
 | .one (.eo _ _ _ _ _) :: _, (true, .one _) :: _, _, h, _ => h.elim
 | .one (.fn _ _) :: _, (true, .one _) :: _, _, h, _ => h.elim
 | .one (.cv _) :: _, (true, .one _) :: _, _, h, _ => h.elim
 | .one .any :: _, (true, .one _) :: _, _, h, _ => h.elim
 | .one (.rn _) :: _, (true, .one _) :: _, _, h, _ => h.elim
 | .one (.er _ _) :: _, (true, .one _) :: _, _, h, _ => h.elim
 | .agg _ :: _, (true, .one _) :: _, _, h, _ => h.elim
 | .tup _ :: _, (true, .one _) :: _, _, h, _ => h.elim
def zyv : List (Nat × List C) -> (Nat -> Option (List C)) -> (Nat -> Option (List C))
 | [], f => f
 | (k, cs) :: l, f => upd (zyv l f) k (some cs)
def boL (d : Nat) : Nat -> List Nat -> Bxs -> List (Nat × List C)
 | m, k :: W, b :: bx => (k, mC d m b) :: boL d (m + b.length) W bx
 | _, _, _ => []
theorem zwe (d : Nat) : ∀ (W : List Nat) (bx : Bxs) (m : Nat) (f : Nat -> Option (List C)), zgx d m W bx f = zyv (boL d m W bx) f
 | [], bx, m, f => by unfold zgx boL; rfl
 | k :: W, [], m, f => by unfold zgx boL; rfl
 | k :: W, b :: bx, m, f => by unfold zgx boL zyv; rw [zwe d W bx]
def mEl (d : Nat) : Nat -> List (Bool × T) -> List (Nat × Ev) -> List (Nat × Ev)
 | _, [], acc => acc
 | j, (true, .sl sz rows) :: ts, acc => mEl d (j + 1) ts ((d * 32 + j, ⟨true, sz, rows, 0, true⟩) :: acc)
 | j, (_, _) :: ts, acc => mEl d (j + 1) ts acc
theorem zvk (d : Nat) : ∀ (ts : List (Bool × T)) (j : Nat) (acc : List (Nat × Ev)) (f : Nat -> Option Ev), mE d j ts (zl6 acc f) = zl6 (mEl d j ts acc) f
 | [], _, _, _ => rfl
 | (false, t) :: ts, j, acc, f => by
  have : mEl d j ((false, t) :: ts) acc = mEl d (j + 1) ts acc := by cases t <;> rfl
  rw [this]; exact zvk d ts (j + 1) acc f
 | (true, t) :: ts, j, acc, f => by
  cases t
  case sl sz rows => exact zvk d ts (j + 1) ((d * 32 + j, ⟨true, sz, rows, 0, true⟩) :: acc) f
  all_goals exact zvk d ts (j + 1) acc f
theorem zjx (d : Nat) : ∀ (ts : List (Bool × T)) (j : Nat) (acc : List (Nat × Ev)) (k : Ky), k ∈ eK acc -> k ∈ eK (mEl d j ts acc)
 | [], _, _, _, h => h
 | (false, t) :: ts, j, acc, k, h => by
  have : mEl d j ((false, t) :: ts) acc = mEl d (j + 1) ts acc := by cases t <;> rfl
  rw [this]; exact zjx d ts (j + 1) acc k h
 | (true, t) :: ts, j, acc, k, h => by
  cases t
  case sl sz rows => exact zjx d ts (j + 1) _ k (by unfold eK; exact List.mem_cons_of_mem _ h)
  all_goals exact zjx d ts (j + 1) acc k h
theorem zvp (d : Nat) : ∀ (ts : List (Bool × T)) (j : Nat) (acc : List (Nat × Ev)) (f f' : Nat -> Option Ev), (∀ e, (2, e) ∈ eK (mEl d j ts acc) -> f' e = f e) -> mF d j ts f -> mF d j ts f'
 | [], _, _, _, _, _, _ => trivial
 | (false, t) :: ts, j, acc, f, f', hk, h => by
  have e0 : mEl d j ((false, t) :: ts) acc = mEl d (j + 1) ts acc := by cases t <;> rfl
  rw [e0] at hk
  exact zvp d ts (j + 1) acc f f' hk h
 | (true, t) :: ts, j, acc, f, f', hk, h => by
  cases t
  case sl sz rows =>
   obtain ⟨h1, h2⟩ := h
   have hm : (2, d * 32 + j) ∈ eK (mEl d j ((true, .sl sz rows) :: ts) acc) := zjx d ts (j + 1) _ _ (by unfold eK; simp)
   refine ⟨(hk _ hm).trans h1, zvp d ts (j + 1) ((d * 32 + j, ⟨true, sz, rows, 0, true⟩) :: acc) _ _ (fun e he => ?_) h2⟩
   by_cases hee : e = d * 32 + j
   ·subst hee; show upd _ _ _ _ = upd _ _ _ _; rw [zah, zah]
   ·show upd _ _ _ _ = upd _ _ _ _; rw [zam _ _ hee, zam _ _ hee]; exact hk e he
  all_goals exact ⟨h.1, zvp d ts (j + 1) acc _ _ hk h.2⟩
def boK : List (Nat × List C) -> List Ky
 | [] => []
 | (k, _) :: l => (1, k) :: boK l
def wK1 : List Nat -> List Ky
 | [] => []
 | k :: l => (1, k) :: wK1 l
theorem zsk {n e : Nat} : ∀ {l : List (Nat × List C)}, (n, e) ∈ boK l -> n = 1
 | [], h => by simp [boK] at h
 | (e', x) :: l, h => by
  simp only [boK, List.mem_cons, Prod.mk.injEq] at h
  rcases h with h | h
  ·exact h.1
  ·exact zsk h
theorem qjo : ∀ l, okK (boK l) = true
 | [] => rfl
 | (e, x) :: l => by have := qjo l; unfold okK at *; simpa [boK] using this
theorem qjw : ∀ l, okK (wK1 l) = true
 | [] => rfl
 | e :: l => by have := qjw l; unfold okK at *; simpa [wK1] using this
theorem qb3 : ∀ {l : List (Nat × List C)} (f f' : Nat -> Option (List C)) {e : Nat}, (1, e) ∈ boK l -> zyv l f e = zyv l f' e
 | [], f, f', e, h => by simp [boK] at h
 | (e', x) :: l, f, f', e, h => by
  unfold zyv
  by_cases he : e = e'
  ·subst he; rw [zah, zah]
  ·rw [zam _ _ he, zam _ _ he]
   simp only [boK, List.mem_cons, Prod.mk.injEq] at h
   exact qb3 f f' (h.resolve_left fun hh => he hh.2)
theorem znh : ∀ {l : List (Nat × List C)} (f : Nat -> Option (List C)) {e : Nat}, (1, e) ∉ boK l -> zyv l f e = f e
 | [], f, e, h => rfl
 | (e', x) :: l, f, e, h => by
  simp only [boK, List.mem_cons, Prod.mk.injEq, true_and, not_or] at h
  unfold zyv
  rw [zam _ _ h.1, znh f h.2]
def St.upEB (σ : St) (l : List (Nat × Ev)) (bl : List (Nat × List C)) : St := ⟨σ.sl, zyv bl σ.bx, zl6 l σ.ev⟩
theorem zg0.ofB {o : Oper} {σ : St} {R : List Ky} {l : List (Nat × Ev)} {bl : List (Nat × List C)} {v : V} {d : Nat} (hd : o.dst = some d) (hR : okK R = true) (h : ∀ σ1, (∀ k ∈ R, za3 σ σ1 k) -> zag P o σ1 ((σ1.upEB l bl).put (some d) v)) : zg0 P o R (dK (some d) ++ (boK bl ++ eK l)) σ ((σ.upEB l bl).put (some d) v) := by
 have hW : okK (dK (some d) ++ (boK bl ++ eK l)) = true := zbf (zso _) (zbf (qjo _) (zxc _))
 refine ⟨hW, hR, fun k hk3 hk => ?_, fun σ1 h1 => ?_⟩
 ·simp only [List.mem_append, not_or] at hk
  refine za3.trans ?_ (zga hk.1)
  obtain ⟨n, i⟩ := k
  match n, hk3 with
  | 0, _ => rfl
  | 1, _ => exact (znh σ.bx hk.2.1).symm
  | 2, _ => exact (zhp σ.ev hk.2.2).symm
 ·have : zs8 σ1 (dK (some d) ++ (boK bl ++ eK l)) ((σ.upEB l bl).put (some d) v) = (σ1.upEB l bl).put (some d) v := by
   refine za3.all3 fun c i hc => ?_
   by_cases hin : (c, i) ∈ dK (some d) ++ (boK bl ++ eK l)
   ·refine (zhc hW hin).trans ?_
    simp only [List.mem_append] at hin
    match c, hc with
    | 0, _ =>
     rcases hin with h | h | h
     ·simp only [dK, List.mem_cons, List.not_mem_nil, or_false, Prod.mk.injEq, true_and] at h
      subst h
      show upd _ _ _ _ = upd _ _ _ _
      rw [zah, zah]
     ·have := zsk h; omega
     ·have := zp6 h; omega
    | 1, _ =>
     rcases hin with h | h | h
     ·simp [dK] at h
     ·exact qb3 _ _ h
     ·have := zp6 h; omega
    | 2, _ =>
     rcases hin with h | h | h
     ·simp [dK] at h
     ·have := zsk h; omega
     ·exact ztt _ _ h
   ·refine (zdj hc hin).trans ?_
    simp only [List.mem_append, not_or] at hin
    refine za3.trans ?_ (zga hin.1)
    match c, hc with
    | 0, _ => rfl
    | 1, _ => exact (znh σ1.bx hin.2.1).symm
    | 2, _ => exact (zhp σ1.ev hin.2.2).symm
  rw [this]
  exact h σ1 h1
def St.callQ (σ : St) (d : Nat) (W : List Nat) (bx' : Bxs) (res : List (Bool × D)) : St := { sl := upd σ.sl d (zly (mD d 0 res)), bx := zyv (boL d (zbb res).length W bx') σ.bx, ev := zl6 (mEl d 0 (zbb res ++ bx'.flatten) []) σ.ev }
theorem zvc (σ : St) (d : Nat) (W : List Nat) (bx' : Bxs) (res : List (Bool × D)) : σ.callQ d W bx' res = ((σ.upEB (mEl d 0 (zbb res ++ bx'.flatten) []) (boL d (zbb res).length W bx')).put (some d) (zly (mD d 0 res))) := rfl
theorem zqc {W : List Nat} {o : Oper} {σ : St} {x : Operand} {asx : Array Operand} {ts : Array TypeId} {f : FuncId} {cvs : List V} {d : Nat} {bx bx' : Bxs} {l : List AF} {res : List (Bool × D)} (ho : o.op = .call ⟨.value x, asx, ts⟩) (hd : o.dst = some d)
  (h : PC P f bx l bx' res) (hc : zau (σ.get P 0 x) = some (f, cvs)) (hWn : W.Nodup)
  (hv : mtK W l (σ.gets P asx ts ++ cvs) fun us => zy1 σ W bx fun cs => gvQ (us ++ cs) (AF.ds l ++ bxA bx.flatten)) (hf : mF d 0 (zbb res ++ bx'.flatten) σ.ev) : zag P o σ (σ.callQ d W bx' res) := by
 intro n0 N g a w hR hn hdN
 obtain ⟨vs, h1, h2⟩ := zc0 hR ho hc h.1
 unfold Oper.wp
 rw [h1]
 let bs : Nat -> Nat := fun j => g.β (W.getD j 0)
 have hbs : ∀ j b, W[j]? = some b -> bs j = g.β b := fun j b hj => by show g.β (W.getD j 0) = _; rw [List.getD_eq_getElem?_getD, hj]; rfl
 obtain ⟨us, dvs, a1, a2, a3, rfl⟩ := zem hbs hv h2
 obtain ⟨cs, bvs, b1, b2, b3, b4, b5⟩ := zij hR (bs := bs) (j := 0) (fun i b hi => by rw [Nat.zero_add]; exact hbs i b hi) a1
 have k2 := zh2 b1 (VRl.append a2 b2)
 have hWj : ∀ j, j < bx.length -> ∃ b, W[j]? = some b /\ b ∈ W /\ bs j = g.β b := fun j hj => by
  have hlt : j < W.length := by omega
  exact ⟨W[j], List.getElem?_eq_getElem hlt, List.getElem_mem hlt, hbs j _ (List.getElem?_eq_getElem hlt)⟩
 have hinj : ∀ i j, i < bx.length -> j < bx.length -> bs i = bs j -> i = j := fun i j hi hj he => by
  obtain ⟨b, e1, e2, e3⟩ := hWj i hi
  obtain ⟨c, f1, f2, f3⟩ := hWj j hj
  have : b = c := hR.inj b c (b5 b e2) (b5 c f2) (by rw [<- e3, <- f3]; exact he)
  subst this
  have hi' : i < W.length := by omega
  have hj' : j < W.length := by omega
  rw [List.getElem?_eq_getElem hi'] at e1
  rw [List.getElem?_eq_getElem hj'] at f1
  exact (List.getElem_inj hWn).1 ((Option.some.inj e1).trans (Option.some.inj f1).symm)
 have hfb : ∀ b, zcn σ g w b -> ∀ j, j < bx.length -> b ≠ bs j := fun b hb j hj e => by
  obtain ⟨c, _, e2, e3⟩ := hWj j hj
  exact hb.1.1 c (b5 c e2) (by rw [<- e3, e])
 refine (h.2.2 w bs bvs dvs [] [] (zcn σ g w) hinj (fun j _ => by simp) b3 (zaw.keepA (fun b hb => ⟨⟨hb.1.2.2.1, by simp, hfb b hb⟩, hb⟩) k2) List.nodup_nil a3).mono ?_
 rintro e w' ⟨us', bvs', fp', tp', rfl, hbx', hlu, o1, o2, o3, hbk⟩
 obtain ⟨v1, v2, f1, f2, t1, t2, ev, ef, et, p1, p2⟩ := zaw.split o1
 obtain ⟨rfl, rfl⟩ := List.append_inj ev (by rw [hlu, zaw.len p1])
 subst ef
 obtain ⟨t1', p1'⟩ := p1.flat
 have pp := zaw.append p1' p2
 rw [<- zgo] at pp
 have e0 : mE d 0 (zbb res ++ bx'.flatten) σ.ev = zl6 (mEl d 0 (zbb res ++ bx'.flatten) []) σ.ev := zvk d _ 0 [] σ.ev
 have e1 : zgx d (zbb res).length W bx' σ.bx = zyv (boL d (zbb res).length W bx') σ.bx := zwe d W bx' _ _
 obtain ⟨g', q1, q2, q3⟩ := New.mix (τ := σ) (g := g) (NB := fun b => w.heap.size <= b) (w' := w') d (zbb res ++ bx'.flatten) _ (f1 ++ f2) _ 0 σ.ev g [] (New.refl _ _ _ _ hR.slc) hf pp o2 (fun b hb' => ⟨by simpa using o3 b hb', by simp⟩)
 have hbk' : Bk (fun k => k < w.heap.size /\ ∀ b ∈ W, k ≠ g.β b) w w' := ⟨hbk.os, hbk.tape, hbk.output, hbk.size, fun k hk => hbk.block k ⟨hk.1, by simp, fun j hj e => by
  obtain ⟨c, _, e2, e3⟩ := hWj j hj
  exact hk.2 c e2 (by rw [<- e3, e])⟩⟩
 have hWl : W.length = bx'.length := by rw [h.2.1]; omega
 have hdom : ∀ b, zgx d (zbb res).length W bx' σ.bx b ≠ none ↔ σ.bx b ≠ none := fun b => by
  by_cases hbW : b ∈ W
  ·exact ⟨fun _ => b5 b hbW, fun _ => zss d W bx' _ _ b hWl hbW⟩
  ·rw [zjz d W bx' _ _ b hbW]
 have hfree : ∀ k, ((k < w'.heap.size /\ k ∉ f1 ++ f2 /\ ∀ j, j < bx.length -> k ≠ bs j) /\ (zcn σ g w k \/ w.heap.size <= k \/ k ∈ ([] : List Nat))) -> zcn ⟨σ.sl, zgx d (zbb res).length W bx' σ.bx, mE d 0 (zbb res ++ bx'.flatten) σ.ev⟩ g' w' k := fun k hk => by
  have hno : ∀ e, St.On ⟨σ.sl, zgx d (zbb res).length W bx' σ.bx, mE d 0 (zbb res ++ bx'.flatten) σ.ev⟩ e -> k ∉ g'.φ e := fun e ho' hm => by
   by_cases hee : σ.ev e = none
   ·obtain ⟨x, hx, _⟩ := ho'
    have := ((q1.new e x hee hx).2.2.1 k hm).2
    rw [List.nil_append] at this
    exact hk.1.2.1 this
   ·rw [(q1.old e hee).2.2] at hm
    obtain ⟨x, hx, hon⟩ := ho'
    have ho2 : σ.On e := ⟨x, (q1.old e hee).1.symm.trans hx, hon⟩
    rcases hk.2 with h | h | h
    ·exact h.2 e ho2 hm
    ·obtain ⟨y, hy, hyo⟩ := ho2
     have := (hR.evs e y hy hyo).lt k hm; omega
    ·simp at h
  refine ⟨⟨fun j hj e => ?_, fun e x hx hon hh => hno e ⟨x, hx, hon⟩ (List.mem_of_mem_head? hh), hk.1.1, ?_⟩, hno⟩
  ·have hj' := (hdom j).1 hj
   rw [q1.β] at e
   rcases hk.2 with h | h | h
   ·exact h.1.1 j hj' e
   ·have := hR.lt hj'; omega
   ·simp at h
  ·rw [q1.A0]
   rcases hk.2 with h | h | h
   ·exact h.1.2.2.2
   ·exact (hR.anew k (hn.new h)).1
   ·simp at h
 have hcr := q3 ⟨σ.sl, zgx d (zbb res).length W bx' σ.bx, mE d 0 (zbb res ++ bx'.flatten) σ.ev⟩ w' rfl fun t v h => zaq.keep (fun _ _ => rfl) hfree t v h
 obtain ⟨hc1, hc2⟩ := hcr.split_flat (A := fun _ => True) (w' := w') (m := 0) (zaw.one_vals p1)
 have hR' := hR.afterB hn hbk' hdom (fun b hb => zjz d W bx' _ _ b hb) b5 q1 (ziv d W bx' bvs' 0 (zbb res).length σ.bx (fun i b hi => by rw [Nat.zero_add]; exact hbs i b hi) hbx' hc2 hWl)
 have hBk : Bk n0 w w' := ⟨hbk.os, hbk.tape, hbk.output, hbk.size, fun k hk => hbk.block k ⟨hn k hk, by simp, fun j hj e => by
  obtain ⟨c, _, e2, e3⟩ := hWj j hj
  exact hR.base c (b5 c e2) (by rw [<- e3, <- e]; exact hk)⟩⟩
 refine ⟨g', ?_, hBk, q1.A0, q1.R0⟩
 have hp := hR'.put (some d) (x := zly (mD d 0 res)) (v := zbz us') (zd5 (ztg d 0 p1 hc1) (zpr d res 0)) (fun i hi => by cases hi; exact hdN d hd)
 rw [e0, e1] at hp
 rw [hd]
 exact hp
section
variable {ks : List Fr} {Q : Exit -> St -> Prop} {σ : St} {ops : Array Oper} {os : List Oper} {L : List (List Ky × List Ky)} {ty : TypeId} {ps : String} {af : Array Edge} {d : Nat} {x : Operand} {asx : Array Operand} {ts : Array TypeId} {f : FuncId} {bx bx' : Bxs} {l : List AF} {res : List (Bool × D)}
theorem callQ (W : List Nat) (h : PC P f bx l bx' res) (hWn : W.Nodup)
  (hp : zas (zau (σ.get P 0 x)) fun p => p.1 = f /\ mtK W l (σ.gets P asx ts ++ p.2) fun us => zy1 σ W bx fun cs => gvQ (us ++ cs) (AF.ds l ++ bxA bx.flatten)) (hf : mF d 0 (zbb res ++ bx'.flatten) σ.ev)
  (k : exo P ops os ks Q (σ.callQ d W bx' res)) : exo P ops (⟨some d, .call ⟨.value x, asx, ts⟩, ty, ps, af, none⟩ :: os) ks Q σ := by
 obtain ⟨⟨f', cvs⟩, h1, rfl, h2⟩ := zan hp
 exact zcr rfl rfl (zqc rfl rfl h h1 hWn h2 hf) k
theorem zv5 {σ1 : St} : ∀ {W : List Nat} {bx : Bxs} {K : List V -> Prop}, (∀ k ∈ wK1 W, za3 σ σ1 k) -> zy1 σ W bx K -> zy1 σ1 W bx K
 | [], [], _, _, h => h
 | [], _ :: _, _, _, h => h.elim
 | _ :: _, [], _, _, h => h.elim
 | k :: W, b :: bx, K, hs, h => by
  obtain ⟨cs, h1, h2, h3⟩ := zan h
  have : σ1.bx k = some cs := (Eq.symm (hs (1, k) (by simp [wK1]))).trans h1
  show zas (σ1.bx k) _
  rw [this]
  exact ⟨h2, zv5 (W := W) (fun k hk => hs k (by simp [wK1, hk])) h3⟩
theorem zrb {σ1 : St} {asx : Array Operand} {ts : Array TypeId} (h : ∀ k ∈ zat asx.toList, za3 σ σ1 k) : σ1.gets P asx ts = σ.gets P asx ts := by
 unfold St.gets
 refine List.map_congr_left fun p hp => ?_
 exact zb9 h (List.of_mem_zip hp).1 _
theorem zf3 {x : Operand} {l : List Operand} {k : Ky} (h : k ∈ zat l) : k ∈ zat (x :: l) := by
 cases x <;> first | exact List.mem_cons_of_mem _ h | exact h
theorem dCallQ (W : List Nat) (h : PC P f bx l bx' res) (hWn : W.Nodup)
  (hp : zas (zau (σ.get P 0 x)) fun p => p.1 = f /\ mtK W l (σ.gets P asx ts ++ p.2) fun us => zy1 σ W bx fun cs => gvQ (us ++ cs) (AF.ds l ++ bxA bx.flatten)) (hf : mF d 0 (zbb res ++ bx'.flatten) σ.ev)
  (k : exd P ops os (L ++ [(zat (x :: asx.toList) ++ (wK1 W ++ eK (mEl d 0 (zbb res ++ bx'.flatten) [])), dK (some d) ++ (boK (boL d (zbb res).length W bx') ++ eK (mEl d 0 (zbb res ++ bx'.flatten) [])))]) ks Q (σ.callQ d W bx' res)) :
  exd P ops (⟨some d, .call ⟨.value x, asx, ts⟩, ty, ps, af, none⟩ :: os) L ks Q σ := by
 obtain ⟨⟨f', cvs⟩, h1, rfl, h2⟩ := zan hp
 refine zg2 rfl rfl ?_ k
 rw [zvc]
 refine zg0.ofB rfl (zbf (zbt _) (zbf (qjw _) (zxc _))) fun σ1 hs => ?_
 rw [<- zvc]
 have e1 : σ1.get P 0 x = σ.get P 0 x := zb9 (l := x :: asx.toList) (fun k hk => hs k (by simp only [List.mem_append]; exact Or.inl hk)) (by simp) 0
 have e2 : σ1.gets P asx ts = σ.gets P asx ts := zrb fun k hk => hs k (by simp only [List.mem_append]; exact Or.inl (zf3 hk))
 refine zqc rfl rfl h (by rw [e1]; exact h1) hWn (by rw [e2]; exact zv7 (fun us hu => zv5 (fun k hk => hs k (by simp only [List.mem_append]; exact Or.inr (Or.inl hk))) hu) h2) ?_
 exact zvp d _ 0 [] _ _ (fun e he => Eq.symm (hs (2, e) (by simp only [List.mem_append]; exact Or.inr (Or.inr he)))) hf
theorem za7 {ds0 res0 : List D} {gR : List Ky} (h : FC P f ds0 res0) (hp : zas (zau (σ.get P 0 x)) fun p => p.1 = f /\ VDs σ (σ.gets P asx ts ++ p.2) ds0 /\ zgw d 0 (za4 res0) σ.ev)
  (k : exd P ops os (L ++ [(gR ++ (zat (x :: asx.toList) ++ (vsK σ (σ.gets P asx ts ++ qln (zau (σ.get P 0 x))) ++ eK (owL d 0 (za4 res0)))), dK (some d) ++ eK (owL d 0 (za4 res0)))]) ks Q (σ.callF d res0)) :
  zm8 P ops ⟨some d, .call ⟨.value x, asx, ts⟩, ty, ps, af, none⟩ os L gR ks Q σ := by
 obtain ⟨⟨f', cvs⟩, h1, rfl, h2, h3⟩ := zan hp
 rw [h1] at k
 exact qb8 _ _ _ _ _ _ rfl (zpq rfl rfl h h1 h2 h3) k
end
attribute [go_sem] gvQ zyv boL mEl boK wK1 St.callQ
end Go.Proofs.YtbccfiillleimaaGreat
