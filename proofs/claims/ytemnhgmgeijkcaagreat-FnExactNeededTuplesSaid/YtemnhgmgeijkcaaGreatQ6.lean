/-
  The walk over plain data, and contracts of functions of the program and of its laws.
  Conditions: those that each theorem names.
-/
import Derived.Test.YtemnhgmgeijkcaaGreatQ5
namespace Go.Proofs.YtemnhgmgeijkcaaGreat
set_option linter.unusedSimpArgs false
set_option linter.unusedVariables false
set_option linter.unusedSectionVars false
set_option maxRecDepth 4000
open Go.RowKit
def voI : Tm -> List Str := Tm.fold fun n xs rs => if (decide (xs.length = 0) && zkm (n.getD 0 0)) = true then [n] else rs.flatten
theorem zt2 (a : Tm) : voI a = if (decide (a.args.length = 0) && zkm (a.name.getD 0 0)) = true then [a.name] else (a.args.map voI).flatten := Tm.fold_eq _ a
def voS : Tm -> List Str := Tm.fold fun n _ rs => if zay n = true then [n] else rs.flatten
theorem zkb (a : Tm) : voS a = if zay a.name = true then [a.name] else (a.args.map voS).flatten := Tm.fold_eq _ a
def Tm.ne : Tm -> Bool := Tm.fold fun n xs rs => (!decide (xs.length = 0) || decide (0 < n.length)) && rs.all id
theorem Tm.ne_eq' (a : Tm) : a.ne = ((!decide (a.args.length = 0) || decide (0 < a.name.length)) && a.args.all Tm.ne) := by
 unfold Tm.ne
 rw [Tm.fold_eq]
 simp only [List.all_map]
 rfl
def zk3 (l : List Str) (s : Str) : List Str := if l.contains s = true then l else l ++ [s]
def zb3 (l : List Str) (ss : List Str) : List Str := ss.foldl zk3 l
theorem qff (l : List Str) (s : Str) : (zk3 l s).length <= l.length + 1 := by unfold zk3; split <;> simp
theorem zdy : ∀ (ss : List Str) (l : List Str), (zb3 l ss).length <= l.length + ss.length
 | [], l => by simp [zb3]
 | s :: ss, l => by have := zdy ss (zk3 l s); have := qff l s; simp only [zb3, List.foldl_cons, List.length_cons] at *; omega
theorem zhd (l a b : List Str) : zb3 l (a ++ b) = zb3 (zb3 l a) b := List.foldl_append ..
theorem qh6 (l : List Str) (s x : Str) : x ∈ zk3 l s ↔ x = s \/ x ∈ l := by
 unfold zk3
 split
 ·rename_i h
  have h : s ∈ l := by simpa using h
  exact ⟨Or.inr, fun k => k.elim (fun e => e ▸ h) id⟩
 ·simp [or_comm]
theorem zoq : ∀ (ss l : List Str) (x : Str), x ∈ zb3 l ss ↔ x ∈ ss \/ x ∈ l
 | [], l, x => by simp [zb3]
 | s :: ss, l, x => by
  show x ∈ zb3 (zk3 l s) ss ↔ _
  rw [zoq ss, qh6]; simp [or_assoc, or_left_comm, or_comm]
theorem qkx {l : List Str} (h : l.Nodup) (s : Str) : (zk3 l s).Nodup := by
 unfold zk3
 split
 ·exact h
 ·rename_i hn
  have hn : s ∉ l := by simpa using hn
  exact List.nodup_append.2 ⟨h, by simp, fun a ha b hb e => hn (by rw [List.mem_singleton.1 hb] at e; exact e ▸ ha)⟩
theorem zup : ∀ (ss : List Str) {l : List Str}, l.Nodup -> (zb3 l ss).Nodup
 | [], _, h => h
 | s :: ss, _, h => zup ss (qkx h s)
def zbm (l : List Str) (ss : List Str) : List Str := ss.foldl zva l
theorem ztf (l : List Str) (s : Str) : (zva l s).length <= l.length + 1 := by
 unfold zva
 split
 ·omega
 ·have : l.length = ((l.takeWhile fun x => Op.bytesLess x s) ++ l.dropWhile fun x => Op.bytesLess x s).length := by rw [List.takeWhile_append_dropWhile]
  simp only [List.length_append, List.length_cons, List.length_nil] at *; omega
theorem zda : ∀ (ss : List Str) (l : List Str), (zbm l ss).length <= l.length + ss.length
 | [], l => by simp [zbm]
 | s :: ss, l => by have := zda ss (zva l s); have := ztf l s; simp only [zbm, List.foldl_cons, List.length_cons] at *; omega
theorem zhj (l a b : List Str) : zbm l (a ++ b) = zbm (zbm l a) b := List.foldl_append ..
theorem zqh : ∀ (ss l : List Str) (x : Str), x ∈ zbm l ss ↔ x ∈ ss \/ x ∈ l
 | [], l, x => by simp [zbm]
 | s :: ss, l, x => by
  show x ∈ zbm (zva l s) ss ↔ _
  rw [zqh ss, qh2]; simp [or_assoc, or_left_comm, or_comm]
theorem zpd : ∀ (ss : List Str) {l : List Str}, Srt l -> Srt (zbm l ss)
 | [], _, h => h
 | s :: ss, _, h => zpd ss (qfe h s)
theorem znc (ss : List Str) : zd3 (zb3 [] ss) = zbm [] ss :=
 qlb (qem (zup ss List.nodup_nil)) (zpd ss List.Pairwise.nil) fun s => by rw [qbj, zoq, zqh]
theorem qml (a : Tm) (h : 0 < a.name.length) : FC Tryz.prog 190 [tmD a] [bD (zkm (a.name.getD 0 0))] := by
 simp only [tmD, zaa]
 refine zaj Tryz.call190 Tryz.func190 rfl (by kernel_rfl) (zav (by kernel_rfl)) ?_
 simp -implicitDefEqProofs only [go_sem, Tryz.results190]
 have h0 : (0 : Int) < a.name.length := by omega
 simp -implicitDefEqProofs only [go_sem, h0, h]
 refine callF (zpk (a.name.getD 0 0)) (by simp -implicitDefEqProofs only [go_sem]) ?_
 simp -implicitDefEqProofs only [go_sem]
theorem zcu {α : Type} (f : α -> List Str) (xs : List α) (k : Nat) (h : k < xs.length) : ((xs.take (k + 1)).map f).flatten = ((xs.take k).map f).flatten ++ f xs[k] := by
 rw [List.take_succ_eq_append_getElem h, List.map_append, List.flatten_append]; simp
theorem zrn {α : Type} (f : α -> List Str) : ∀ (xs : List α), ∀ x ∈ xs, (f x).length <= ((xs.map f).flatten).length
 | [], x, h => by simp at h
 | a :: xs, x, h => by
  rcases List.mem_cons.1 h with rfl | h
  ·simp
  ·have := zrn f xs x h; simp at *; omega
theorem zby {α : Type} (f : α -> List Str) (xs : List α) (k : Nat) (h : k < xs.length) : (((xs.take k).map f).flatten).length + (f xs[k]).length <= ((xs.map f).flatten).length := by
 have e : xs = xs.take k ++ xs[k] :: xs.drop (k + 1) := by rw [<- List.drop_eq_getElem_cons h, List.take_append_drop]
 conv => rhs; rw [e]
 simp only [List.map_append, List.map_cons, List.flatten_append, List.flatten_cons, List.length_append]; omega
set_option maxHeartbeats 1000000 in
theorem zv9 (a : Tm) (ha : a.ne = true) (H : ∀ x ∈ a.args, ∀ ys : List Str, ys.length + (voI x).length <= 1073741824 -> GC Tryz.prog 124 [(true, .one (zb9 ys)), (false, tmD x)] [.one (zb9 (zb3 ys (voI x)))])
  (ys : List Str) (hs : ys.length + (voI a).length <= 1073741824) (hl : a.args.length <= 1099511627776) : GC Tryz.prog 124 [(true, .one (zb9 ys)), (false, tmD a)] [.one (zb9 (zb3 ys (voI a)))] := by
 have hv := zt2 a
 rw [Tm.ne_eq'] at ha
 simp only [tmD, zaa]
 refine zk7 Tryz.call124 Tryz.func124 rfl (by kernel_rfl) (by simp only [List.length_cons, List.length_nil, Tryz.ntmps124]; omega) (by simp [zbo, T.isPin]) ?_
 simp -implicitDefEqProofs only [go_sem, Tryz.results124]
 by_cases h0 : a.args.length = 0
 ·have hn : 0 < a.name.length := by simp [h0] at ha; omega
  have e0 : ((a.args.length : Int) == 0) = true := by simp [h0]
  have hV := qml a hn
  simp only [tmD, zaa] at hV
  simp -implicitDefEqProofs only [go_sem, e0]
  refine callF (hV) (by simp -implicitDefEqProofs only [go_sem]) ?_
  simp -implicitDefEqProofs only [go_sem]
  refine ⟨fun h1 => ?_, fun h1 => ?_⟩
  ·rw [h1, show decide (a.args.length = 0) = true by simpa using h0, Bool.true_and, if_pos rfl] at hv
   rw [hv] at hs ⊢
   refine callF (zdq ys a.name) (by simp -implicitDefEqProofs only [go_sem]) ?_
   simp -implicitDefEqProofs only [go_sem]
   have hy : ys.length + 1 <= 4294967296 := by simp at hs; omega
   have hy2 : ys.length <= 4294967295 := by simp at hs; omega
   refine ⟨fun h2 => ?_, fun h2 => ?_⟩
   ·have h2 : ys.contains a.name = false := by simpa using h2
    refine za2 (by simp -implicitDefEqProofs only [go_sem]) ?_
    simp -implicitDefEqProofs only [go_sem]
    refine apD true (by simp -implicitDefEqProofs only [go_sem, hy, hy2, ne_eq, List.length_map]) ?_
    simp -implicitDefEqProofs only [go_sem, hy, hy2, ne_eq, List.length_map]
    have e : zb3 ys [a.name] = ys ++ [a.name] := by show zk3 ys a.name = _; unfold zk3; rw [h2]; simp
    exact Or.inl (by rw [e]; simp)
   ·have h2 : ys.contains a.name = true := by simpa using h2
    have e : zb3 ys [a.name] = ys := by show zk3 ys a.name = _; unfold zk3; rw [h2]; simp
    exact Or.inl (by rw [e])
  ·rw [h1, Bool.and_false, if_neg (by simp), List.length_eq_zero_iff.1 h0, List.map_nil, List.flatten_nil] at hv
   have hv : voI a = (a.args.map voI).flatten := by rw [hv, List.length_eq_zero_iff.1 h0]; rfl
   rw [hv] at hs ⊢
   refine zad (fun k : Nat => hd [(0, .one (.ow 0 0)), (27, .one (.rn (tmS a.args))), (28, vI a.args.length), (29, vI k)] [] [(0, ⟨true, 1, (zb3 ys ((a.args.take k).map voI).flatten).map fun s => [.str s], 0, true⟩)]) (fun k => k <= a.args.length) (fun k => a.args.length - k) 0 (zab ?_) (Nat.zero_le _) ?_
   ·simp -implicitDefEqProofs only [go_sem]
    rfl
   ·intro k hk
    by_cases hlt : k < a.args.length
    ·have hf := zby voI a.args k hlt
     have hL := zdy ((a.args.take k).map voI).flatten ys
     have hx := zrn voI a.args _ (List.getElem_mem hlt)
     have HC := H a.args[k] (List.getElem_mem hlt) (zb3 ys ((a.args.take k).map voI).flatten) (by omega)
     rw [<- zhd, <- zcu voI a.args k hlt] at HC
     simp only [tmD, zaa a.args[k]] at HC
     simp -implicitDefEqProofs only [go_sem, zai, hlt, zaa a.args[k]]
     refine zco [27, 28, 29] [33, 34] [] (HC) (by simp -implicitDefEqProofs only [go_sem]) (by simp -implicitDefEqProofs only [go_sem]) (by simp -implicitDefEqProofs only [go_sem]) (by simp -implicitDefEqProofs only [go_sem]) ?_
     simp -implicitDefEqProofs only [go_sem]
     refine ⟨k + 1, hlt, by omega, zcr 0 1120 ?_⟩
     simp -implicitDefEqProofs only [go_sem]
     rw [zak (by omega)]
    ·simp -implicitDefEqProofs only [go_sem, hlt]
     exact Or.inl (by rw [List.take_of_length_le (by omega)])
 ·have e0 : ((a.args.length : Int) == 0) = false := by simp [h0]
  rw [show decide (a.args.length = 0) = false by simpa using h0, Bool.false_and, if_neg (by simp)] at hv
  rw [hv] at hs ⊢
  simp -implicitDefEqProofs only [go_sem, e0]
  refine zad (fun k : Nat => hd [(0, .one (.ow 0 0)), (27, .one (.rn (tmS a.args))), (28, vI a.args.length), (29, vI k)] [] [(0, ⟨true, 1, (zb3 ys ((a.args.take k).map voI).flatten).map fun s => [.str s], 0, true⟩)]) (fun k => k <= a.args.length) (fun k => a.args.length - k) 0 (zab ?_) (Nat.zero_le _) ?_
  ·simp -implicitDefEqProofs only [go_sem]
   rfl
  ·intro k hk
   by_cases hlt : k < a.args.length
   ·have hf := zby voI a.args k hlt
    have hL := zdy ((a.args.take k).map voI).flatten ys
    have hx := zrn voI a.args _ (List.getElem_mem hlt)
    have HC := H a.args[k] (List.getElem_mem hlt) (zb3 ys ((a.args.take k).map voI).flatten) (by omega)
    rw [<- zhd, <- zcu voI a.args k hlt] at HC
    simp only [tmD, zaa a.args[k]] at HC
    simp -implicitDefEqProofs only [go_sem, zai, hlt, zaa a.args[k]]
    refine zco [27, 28, 29] [33, 34] [] (HC) (by simp -implicitDefEqProofs only [go_sem]) (by simp -implicitDefEqProofs only [go_sem]) (by simp -implicitDefEqProofs only [go_sem]) (by simp -implicitDefEqProofs only [go_sem]) ?_
    simp -implicitDefEqProofs only [go_sem]
    refine ⟨k + 1, hlt, by omega, zcr 0 1120 ?_⟩
    simp -implicitDefEqProofs only [go_sem]
    rw [zak (by omega)]
   ·simp -implicitDefEqProofs only [go_sem, hlt]
    exact Or.inl (by rw [List.take_of_length_le (by omega)])
theorem zog : ∀ a : Tm, a.ne = true -> a.wt <= 1099511627776 -> ∀ ys : List Str, ys.length + (voI a).length <= 1073741824 -> GC Tryz.prog 124 [(true, .one (zb9 ys)), (false, tmD a)] [.one (zb9 (zb3 ys (voI a)))] :=
 zba fun n xs ih ha hw ys hs => zv9 (.mk n xs) ha (fun x hx ys hs => ih x hx (by rw [Tm.ne_eq', Bool.and_eq_true] at ha; exact List.all_eq_true.1 ha.2 x hx) (by
  have := Tm.wt_eq (.mk n xs)
  have := zbk Tm.wt xs x hx
  simp only [Tm.args] at *; omega) ys hs) ys hs (by have := Tm.wt_eq (.mk n xs); omega)
theorem zrd (a : Tm) (ha : a.ne = true) (hw : a.wt <= 1099511627776) (hs : (voI a).length <= 1073741824) : FC Tryz.prog 246 [tmD a] [.one (zb9 (zbm [] (voI a)))] := by
 have HC := zog a ha hw [] (by simpa using hs)
 have HS := zjk (zb3 [] (voI a)) (by have := zdy (voI a) []; simp at this; omega)
 rw [znc] at HS
 simp only [tmD, zaa] at HC ⊢
 refine zb8 Tryz.call246 Tryz.func246 rfl (by kernel_rfl) (zav (by kernel_rfl)) ?_
 simp -implicitDefEqProofs only [go_sem, Tryz.results246]
 refine za2 (by simp -implicitDefEqProofs only [go_sem]) ?_
 simp -implicitDefEqProofs only [go_sem]
 refine zco [] [4, 5] [] (HC) (by simp -implicitDefEqProofs only [go_sem]) (by simp -implicitDefEqProofs only [go_sem]) (by simp -implicitDefEqProofs only [go_sem]) (by simp -implicitDefEqProofs only [go_sem]) ?_
 simp -implicitDefEqProofs only [go_sem]
 refine qcp (HS) (by simp -implicitDefEqProofs only [go_sem, zb0]) (by simp -implicitDefEqProofs only [go_sem, zb0]) rfl ?_
 simp -implicitDefEqProofs only [go_sem, zb0]
theorem qcn (a : Tm) (H : ∀ x ∈ a.args, ∀ ys : List Str, ys.length + (voS x).length <= 1073741824 -> GC Tryz.prog 241 [(true, .one (zb9 ys)), (false, tmD x)] [.one (zb9 (zbm ys (voS x)))])
  (ys : List Str) (hs : ys.length + (voS a).length <= 1073741824) (hl : a.args.length <= 1099511627776) : GC Tryz.prog 241 [(true, .one (zb9 ys)), (false, tmD a)] [.one (zb9 (zbm ys (voS a)))] := by
 have hv := zkb a
 simp only [tmD, zaa]
 refine zk7 Tryz.call241 Tryz.func241 rfl (by kernel_rfl) (by simp only [List.length_cons, List.length_nil, Tryz.ntmps241]; omega) (by simp [zbo, T.isPin]) ?_
 simp -implicitDefEqProofs only [go_sem, Tryz.results241]
 refine callF (zgl a.name) (by simp -implicitDefEqProofs only [go_sem]) ?_
 simp -implicitDefEqProofs only [go_sem]
 refine ⟨fun h => ?_, fun h => ?_⟩
 ·rw [if_pos h] at hv
  rw [hv] at hs ⊢
  refine zco [] [9, 11] [] (qbw ys a.name (by simp at hs; omega)) (by simp -implicitDefEqProofs only [go_sem]) (by simp -implicitDefEqProofs only [go_sem]) (by simp -implicitDefEqProofs only [go_sem]) (by simp -implicitDefEqProofs only [go_sem]) ?_
  simp -implicitDefEqProofs only [go_sem]
  exact Or.inl rfl
 ·rw [h, if_neg (by simp)] at hv
  rw [hv] at hs ⊢
  refine zad (fun k : Nat => hd [(0, .one (.ow 0 0)), (3, .one (.bx 3 0)), (5, vI k)] [(3, [.t (.str a.name), .rn (tmS a.args)])] [(0, ⟨true, 1, (zbm ys ((a.args.take k).map voS).flatten).map fun s => [.str s], 0, true⟩)]) (fun k => k <= a.args.length) (fun k => a.args.length - k) 0 (zab ?_) (Nat.zero_le _) ?_
  ·simp -implicitDefEqProofs only [go_sem]
   rfl
  ·intro k hk
   by_cases hlt : k < a.args.length
   ·have hf := zby voS a.args k hlt
    have hL := zda ((a.args.take k).map voS).flatten ys
    have HC := H a.args[k] (List.getElem_mem hlt) (zbm ys ((a.args.take k).map voS).flatten) (by omega)
    rw [<- zhj, <- zcu voS a.args k hlt] at HC
    simp only [tmD, zaa a.args[k]] at HC
    simp -implicitDefEqProofs only [go_sem, zai, hlt, zaa a.args[k]]
    refine zco [3, 5] [20, 25] [] (HC) (by simp -implicitDefEqProofs only [go_sem]) (by simp -implicitDefEqProofs only [go_sem]) (by simp -implicitDefEqProofs only [go_sem]) (by simp -implicitDefEqProofs only [go_sem]) ?_
    simp -implicitDefEqProofs only [go_sem]
    refine ⟨k + 1, hlt, by omega, zcr 0 832 ?_⟩
    simp -implicitDefEqProofs only [go_sem]
    rw [zak (by omega)]
   ·simp -implicitDefEqProofs only [go_sem, hlt]
    exact Or.inl (by rw [List.take_of_length_le (by omega)])
end Go.Proofs.YtemnhgmgeijkcaaGreat
namespace Go.Proofs.YtemnhgmgeijkcaaGreat
set_option linter.unusedSimpArgs false
set_option linter.unusedVariables false
set_option linter.unusedSectionVars false
set_option maxRecDepth 4000
open Go.RowKit
def Fm.nodes : Fm -> Nat := Fm.fold fun _ _ _ _ rs => 1 + rs.sum
theorem Fm.nodes_eq (a : Fm) : a.nodes = 1 + (a.parts.map Fm.nodes).sum := Fm.fold_eq _ a
theorem zcd : ∀ a : Fm, a.nodes <= 1 + a.wt := by
 refine za7 fun o a v xs ih => ?_
 rw [Fm.nodes_eq, Fm.wt_eq]
 show 1 + (xs.map Fm.nodes).sum <= 1 + (a.wt + v.length + xs.length + (xs.map Fm.wt).sum)
 have : (xs.map Fm.nodes).sum <= xs.length + (xs.map Fm.wt).sum := by
  induction xs with
  | nil => simp
  | cons x xs ih2 =>
   have h1 := ih x (by simp)
   have h2 := ih2 fun y hy => ih y (by simp [hy])
   simp only [List.map_cons, List.sum_cons, List.length_cons]
   omega
 omega
def zfd : Fm -> Int := Fm.fold fun _ _ _ _ rs => szL 40 1 rs
theorem ztt (a : Fm) : zfd a = szL 40 1 (a.parts.map zfd) := Fm.fold_eq _ a
theorem zl3 : ∀ a : Fm, 1 <= zfd a /\ zfd a <= a.nodes /\ (zfd a <= 40 -> zfd a = a.nodes) := by
 refine za7 fun o a v xs ih => ?_
 rw [ztt, Fm.nodes_eq]
 show 1 <= szL 40 1 (xs.map zfd) /\ szL 40 1 (xs.map zfd) <= ((1 + (xs.map Fm.nodes).sum : Nat) : Int) /\ _
 obtain ⟨k1, k2, k3⟩ := zmi zfd Fm.nodes 40 xs 1 (by omega) ih
 refine ⟨k2, by omega, fun h => ?_⟩
 have := k3 h
 show szL 40 1 (xs.map zfd) = _
 rw [this]; show _ = ((1 + (xs.map Fm.nodes).sum : Nat) : Int); omega
theorem qgt (a : Fm) : decide (zfd a <= 40) = decide (a.nodes <= 40) := by
 obtain ⟨h1, h2, h3⟩ := zl3 a
 rw [decide_eq_decide]
 exact ⟨fun h => by have := h3 h; omega, fun h => by omega⟩
theorem zbx {a x : Fm} (h : x ∈ a.parts) : x.wt <= a.wt := by
 have := Fm.wt_eq a
 have := zbk Fm.wt a.parts x h
 omega
theorem zsw {a x : Tm} (h : x ∈ a.args) : x.wt <= a.wt := by
 have := Tm.wt_eq a
 have := zbk Tm.wt a.args x h
 omega
theorem zmm (a : Fm) : a.atom.wt <= a.wt := by have := Fm.wt_eq a; omega
set_option maxHeartbeats 400000 in
theorem qbs (a : Fm) (hs : a.wt <= 1099511627776) (H : ∀ x ∈ a.parts, FC Tryz.prog 181 [fmD x] [iD (zfd x)]) : FC Tryz.prog 181 [fmD a] [iD (zfd a)] := by
 have hl : a.parts.length <= 9223372036854775807 := by rw [Fm.wt_eq] at hs; omega
 have hn := zcd a
 have hN := a.nodes_eq
 simp only [fmD, zac]
 refine zaj Tryz.call181 Tryz.func181 rfl (by kernel_rfl) (zav (by kernel_rfl)) ?_
 simp -implicitDefEqProofs only [go_sem, Tryz.results181]
 refine zad (fun p : Nat × Int => hd [(3, vI p.2), (7, vT (fmS a.parts)), (8, vI a.parts.length), (9, vI p.1)] [] []) (fun p => p.1 <= a.parts.length /\ zfd a = szL 40 p.2 ((a.parts.drop p.1).map zfd) /\ 1 <= p.2 /\ p.2 + qhf Fm.nodes a.parts p.1 <= a.nodes) (fun p => a.parts.length - p.1) (0, 1) (zab ?_) ?_ ?_
 ·simp -implicitDefEqProofs only [go_sem]
 ·exact ⟨by simp, by rw [ztt]; rfl, by omega, by rw [zg1]; omega⟩
 ·intro ⟨k, n⟩ ⟨hk, hr, h1, h2⟩
  simp only at hk hr h1 h2
  by_cases hlt : k < a.parts.length
  ·have hd := zl5 Fm.nodes a.parts k hlt
   obtain ⟨s1, s2, s3⟩ := zl3 a.parts[k]
   rw [List.drop_eq_getElem_cons hlt, List.map_cons, szL] at hr
   simp -implicitDefEqProofs only [go_sem, zai, hlt, zac]
   refine ⟨fun h => ?_, fun h => ?_⟩
   ·rw [hr, if_pos (by simpa using h)]
   ·refine callF (H a.parts[k] (List.getElem_mem hlt)) (by simp -implicitDefEqProofs only [go_sem, zac]) ?_
    simp -implicitDefEqProofs only [go_sem, zac]
    rw [if_neg (by simpa using h)] at hr
    exact ⟨(k + 1, n + zfd a.parts[k]), ⟨hlt, hr, by simp only; omega, by simp only; omega⟩, by simp only; omega, zab (by simp -implicitDefEqProofs only [go_sem]; rw [zak (by omega), zbc (by omega) (by omega)]; exact ⟨rfl, rfl⟩)⟩
  ·simp -implicitDefEqProofs only [go_sem, hlt]
   rw [hr, List.drop_of_length_le (by omega)]; rfl
theorem qgi : ∀ a : Fm, a.wt <= 1099511627776 -> FC Tryz.prog 181 [fmD a] [iD (zfd a)] :=
 za7 fun o a v xs ih hs => qbs (.mk o a v xs) hs fun x hx => ih x hx (Nat.le_trans (zbx (a := .mk o a v xs) hx) hs)
def mnL (most : Int) : Int -> List (Int -> Int) -> Int
 | n, [] => n
 | n, r :: rs => if n <= most then mnL most (n + r (most - n)) rs else n
theorem zne {α : Type} (f : α -> Int -> Int) (g : α -> Nat) (most : Int) : ∀ (xs : List α) (n : Int), 0 <= n -> (∀ x ∈ xs, ∀ m, 0 <= m -> 1 <= f x m /\ f x m <= g x /\ (f x m <= m -> f x m = g x)) -> mnL most n (xs.map f) <= n + (xs.map g).sum /\ n <= mnL most n (xs.map f) /\ (mnL most n (xs.map f) <= most -> mnL most n (xs.map f) = n + (xs.map g).sum)
 | [], n, _, _ => by simp [mnL]
 | x :: xs, n, hn, h => by
  simp only [List.map_cons, mnL, List.sum_cons]
  split
  ·obtain ⟨h1, h2, h3⟩ := h x (by simp) (most - n) (by omega)
   obtain ⟨k1, k2, k3⟩ := zne f g most xs (n + f x (most - n)) (by omega) fun y hy => h y (by simp [hy])
   refine ⟨by omega, by omega, fun hh => ?_⟩
   have := k3 hh
   have : f x (most - n) = g x := h3 (by omega)
   omega
  ·refine ⟨by omega, by omega, fun hh => by omega⟩
def zeo : Tm -> Int -> Int := Tm.fold fun _ _ rs m => mnL m 1 rs
theorem zvn (a : Tm) (m : Int) : zeo a m = mnL m 1 (a.args.map zeo) := congrFun (Tm.fold_eq _ a) m
theorem zlb : ∀ (a : Tm) (m : Int), 0 <= m -> 1 <= zeo a m /\ zeo a m <= a.nodes /\ (zeo a m <= m -> zeo a m = a.nodes) := by
 refine zba fun b0 xs ih m hm => ?_
 rw [zvn, Tm.nodes_eq]
 show 1 <= mnL m 1 (xs.map zeo) /\ mnL m 1 (xs.map zeo) <= ((1 + (xs.map Tm.nodes).sum : Nat) : Int) /\ (mnL m 1 (xs.map zeo) <= m -> mnL m 1 (xs.map zeo) = ((1 + (xs.map Tm.nodes).sum : Nat) : Int))
 obtain ⟨k1, k2, k3⟩ := zne zeo Tm.nodes m xs 1 (by omega) ih
 refine ⟨k2, by omega, fun h => ?_⟩
 have := k3 h
 omega
theorem qf3 (a : Tm) (m : Nat) : decide (zeo a m <= m) = decide (a.nodes <= m) := by
 obtain ⟨h1, h2, h3⟩ := zlb a m (by omega)
 rw [decide_eq_decide]
 exact ⟨fun h => by have := h3 h; omega, fun h => by omega⟩
set_option maxHeartbeats 400000 in
theorem qa4 (a : Tm) (hs : a.wt <= 1099511627776) (H : ∀ x ∈ a.args, ∀ m : Int, 0 <= m -> m <= 1099511627776 -> FC Tryz.prog 281 [tmD x, iD m] [iD (zeo x m)]) (m : Int) (h0 : 0 <= m) (h1 : m <= 1099511627776) : FC Tryz.prog 281 [tmD a, iD m] [iD (zeo a m)] := by
 have hl : a.args.length <= 9223372036854775807 := by rw [Tm.wt_eq] at hs; omega
 have hn := zf2 a
 have hN := a.nodes_eq
 simp only [tmD, zaa]
 refine zaj Tryz.call281 Tryz.func281 rfl (by kernel_rfl) (zav (by kernel_rfl)) ?_
 simp -implicitDefEqProofs only [go_sem, Tryz.results281]
 refine zad (fun p : Nat × Int => hd [(1, vI m), (2, .one (.bx 2 0)), (5, vI p.2), (6, vI p.1)] [(2, [.t (.str a.name), .t (tmS a.args)])] []) (fun p => p.1 <= a.args.length /\ zeo a m = mnL m p.2 ((a.args.drop p.1).map zeo) /\ 1 <= p.2 /\ p.2 + qhf Tm.nodes a.args p.1 <= a.nodes) (fun p => a.args.length - p.1) (0, 1) (zab ?_) ?_ ?_
 ·simp -implicitDefEqProofs only [go_sem]
 ·exact ⟨by simp, by rw [zvn]; rfl, by omega, by rw [zg1]; omega⟩
 ·intro ⟨k, n⟩ ⟨hk, hr, h2, h3⟩
  simp only at hk hr h2 h3
  by_cases hlt : k < a.args.length
  ·have hd := zl5 Tm.nodes a.args k hlt
   rw [List.drop_eq_getElem_cons hlt, List.map_cons, mnL] at hr
   simp -implicitDefEqProofs only [go_sem, zai, hlt, zaa]
   refine ⟨fun h => ?_, fun h => ?_⟩
   ·have hle : n <= m := by simpa using h
    obtain ⟨s1, s2, s3⟩ := zlb a.args[k] (m - n) (by omega)
    rw [zbc (n := m - n) (by omega) (by omega)]
    refine callF (H a.args[k] (List.getElem_mem hlt) (m - n) (by omega) (by omega)) (by simp -implicitDefEqProofs only [go_sem, zaa]) ?_
    simp -implicitDefEqProofs only [go_sem, zaa]
    rw [if_pos hle] at hr
    exact ⟨(k + 1, n + zeo a.args[k] (m - n)), ⟨hlt, hr, by simp only; omega, by simp only; omega⟩, by simp only; omega, zab (by simp -implicitDefEqProofs only [go_sem]; rw [zak (by omega), zbc (by omega) (by omega)]; exact ⟨rfl, rfl⟩)⟩
   ·rw [hr, if_neg (by simpa using h)]
  ·simp -implicitDefEqProofs only [go_sem, hlt]
   rw [hr, List.drop_of_length_le (by omega)]; rfl
theorem qh3 : ∀ a : Tm, a.wt <= 1099511627776 -> ∀ m : Int, 0 <= m -> m <= 1099511627776 -> FC Tryz.prog 281 [tmD a, iD m] [iD (zeo a m)] :=
 zba fun b0 xs ih hs => qa4 (.mk b0 xs) hs fun x hx => ih x hx (Nat.le_trans (zsw (a := .mk b0 xs) hx) hs)
def zes : Fm -> Int -> Int := Fm.fold fun _ _ _ _ rs m => mnL m 1 rs
theorem ztw (a : Fm) (m : Int) : zes a m = mnL m 1 (a.parts.map zes) := congrFun (Fm.fold_eq _ a) m
theorem zlq : ∀ (a : Fm) (m : Int), 0 <= m -> 1 <= zes a m /\ zes a m <= a.nodes /\ (zes a m <= m -> zes a m = a.nodes) := by
 refine za7 fun b0 b1 b2 xs ih m hm => ?_
 rw [ztw, Fm.nodes_eq]
 show 1 <= mnL m 1 (xs.map zes) /\ mnL m 1 (xs.map zes) <= ((1 + (xs.map Fm.nodes).sum : Nat) : Int) /\ (mnL m 1 (xs.map zes) <= m -> mnL m 1 (xs.map zes) = ((1 + (xs.map Fm.nodes).sum : Nat) : Int))
 obtain ⟨k1, k2, k3⟩ := zne zes Fm.nodes m xs 1 (by omega) ih
 refine ⟨k2, by omega, fun h => ?_⟩
 have := k3 h
 omega
theorem qhp (a : Fm) (m : Nat) : decide (zes a m <= m) = decide (a.nodes <= m) := by
 obtain ⟨h1, h2, h3⟩ := zlq a m (by omega)
 rw [decide_eq_decide]
 exact ⟨fun h => by have := h3 h; omega, fun h => by omega⟩
set_option maxHeartbeats 400000 in
theorem qcy (a : Fm) (hs : a.wt <= 1099511627776) (H : ∀ x ∈ a.parts, ∀ m : Int, 0 <= m -> m <= 1099511627776 -> FC Tryz.prog 179 [fmD x, iD m] [iD (zes x m)]) (m : Int) (h0 : 0 <= m) (h1 : m <= 1099511627776) : FC Tryz.prog 179 [fmD a, iD m] [iD (zes a m)] := by
 have hl : a.parts.length <= 9223372036854775807 := by rw [Fm.wt_eq] at hs; omega
 have hn := zcd a
 have hN := a.nodes_eq
 simp only [fmD, zac]
 refine zaj Tryz.call179 Tryz.func179 rfl (by kernel_rfl) (zav (by kernel_rfl)) ?_
 simp -implicitDefEqProofs only [go_sem, Tryz.results179]
 refine zad (fun p : Nat × Int => hd [(1, vI m), (2, .one (.bx 2 0)), (5, vI p.2), (6, vI p.1)] [(2, [.t (.int .i64 a.op), .t (.str a.atom.name), .t (tmS a.atom.args), .t (.str a.var), .t (fmS a.parts)])] []) (fun p => p.1 <= a.parts.length /\ zes a m = mnL m p.2 ((a.parts.drop p.1).map zes) /\ 1 <= p.2 /\ p.2 + qhf Fm.nodes a.parts p.1 <= a.nodes) (fun p => a.parts.length - p.1) (0, 1) (zab ?_) ?_ ?_
 ·simp -implicitDefEqProofs only [go_sem]
 ·exact ⟨by simp, by rw [ztw]; rfl, by omega, by rw [zg1]; omega⟩
 ·intro ⟨k, n⟩ ⟨hk, hr, h2, h3⟩
  simp only at hk hr h2 h3
  by_cases hlt : k < a.parts.length
  ·have hd := zl5 Fm.nodes a.parts k hlt
   rw [List.drop_eq_getElem_cons hlt, List.map_cons, mnL] at hr
   simp -implicitDefEqProofs only [go_sem, zai, hlt, zac]
   refine ⟨fun h => ?_, fun h => ?_⟩
   ·have hle : n <= m := by simpa using h
    obtain ⟨s1, s2, s3⟩ := zlq a.parts[k] (m - n) (by omega)
    rw [zbc (n := m - n) (by omega) (by omega)]
    refine callF (H a.parts[k] (List.getElem_mem hlt) (m - n) (by omega) (by omega)) (by simp -implicitDefEqProofs only [go_sem, zac]) ?_
    simp -implicitDefEqProofs only [go_sem, zac]
    rw [if_pos hle] at hr
    exact ⟨(k + 1, n + zes a.parts[k] (m - n)), ⟨hlt, hr, by simp only; omega, by simp only; omega⟩, by simp only; omega, zab (by simp -implicitDefEqProofs only [go_sem]; rw [zak (by omega), zbc (by omega) (by omega)]; exact ⟨rfl, rfl⟩)⟩
   ·rw [hr, if_neg (by simpa using h)]
  ·simp -implicitDefEqProofs only [go_sem, hlt]
   rw [hr, List.drop_of_length_le (by omega)]; rfl
theorem qe2 : ∀ a : Fm, a.wt <= 1099511627776 -> ∀ m : Int, 0 <= m -> m <= 1099511627776 -> FC Tryz.prog 179 [fmD a, iD m] [iD (zes a m)] :=
 za7 fun b0 b1 b2 xs ih hs => qcy (.mk b0 b1 b2 xs) hs fun x hx => ih x hx (Nat.le_trans (zbx (a := .mk b0 b1 b2 xs) hx) hs)
end Go.Proofs.YtemnhgmgeijkcaaGreat
namespace Go.Proofs.YtemnhgmgeijkcaaGreat
set_option linter.unusedSimpArgs false
set_option linter.unusedVariables false
set_option linter.unusedSectionVars false
set_option maxRecDepth 4000
open Go.RowKit
set_option maxHeartbeats 400000 in
theorem zw8 (a : Tm) (hs : a.wt <= 1099511627776) (H : ∀ x ∈ a.args, FC Tryz.prog 282 [tmD x] [iD x.depth]) : FC Tryz.prog 282 [tmD a] [iD a.depth] := by
 have hl : a.args.length <= 9223372036854775807 := by rw [Tm.wt_eq] at hs; omega
 have hn := zf2 a
 have hdn := zj5 a
 have hD := a.depth_eq
 simp only [tmD, zaa]
 refine zaj Tryz.call282 Tryz.func282 rfl (by kernel_rfl) (zav (by kernel_rfl)) ?_
 simp -implicitDefEqProofs only [go_sem, Tryz.results282]
 refine zad (fun p : Nat × Nat => hd [(1, .one (.bx 1 0)), (3, vI p.2), (4, vI p.1)] [(1, [.t (.str a.name), .t (tmS a.args)])] []) (fun p => p.1 <= a.args.length /\ a.depth = ((a.args.drop p.1).map Tm.depth).foldl max p.2 + 1) (fun p => a.args.length - p.1) (0, 0) (zab ?_) ?_ ?_
 ·simp -implicitDefEqProofs only [go_sem]
 ·exact ⟨by simp, hD⟩
 ·intro ⟨k, n⟩ ⟨hk, hr⟩
  simp only at hk hr
  by_cases hlt : k < a.args.length
  ·rw [List.drop_eq_getElem_cons hlt, List.map_cons, List.foldl_cons] at hr
   simp -implicitDefEqProofs only [go_sem, zai, hlt, zaa]
   refine callF (H a.args[k] (List.getElem_mem hlt)) (by simp -implicitDefEqProofs only [go_sem, zaa]) ?_
   simp -implicitDefEqProofs only [go_sem, zaa]
   refine callF (qf5 n a.args[k].depth) (by simp -implicitDefEqProofs only [go_sem, zaa]) ?_
   simp -implicitDefEqProofs only [go_sem, zaa]
   exact ⟨(k + 1, max n a.args[k].depth), ⟨hlt, hr⟩, by simp only; omega, zab (by simp -implicitDefEqProofs only [go_sem]; rw [zak (by omega)]; exact ⟨by congr 1; omega, rfl⟩)⟩
  ·simp -implicitDefEqProofs only [go_sem, hlt]
   rw [List.drop_of_length_le (by omega)] at hr
   simp only [List.map_nil, List.foldl_nil] at hr
   rw [hr, zak (by omega)]
theorem zz8 : ∀ a : Tm, a.wt <= 1099511627776 -> FC Tryz.prog 282 [tmD a] [iD a.depth] :=
 zba fun n xs ih hs => zw8 (.mk n xs) hs fun x hx => ih x hx (Nat.le_trans (zsw (a := .mk n xs) hx) hs)
theorem zvu (a : Tm) (hs : a.wt <= 1099511627776) : FC Tryz.prog 237 [tmD a] [bD (zcx a)] := by
 simp only [tmD, zaa]
 refine zaj Tryz.call237 Tryz.func237 rfl (by kernel_rfl) (zav (by kernel_rfl)) ?_
 simp -implicitDefEqProofs only [go_sem, Tryz.results237]
 refine callF (qh3 a hs 30 (by omega) (by omega)) (by simp -implicitDefEqProofs only [go_sem, zaa]) ?_
 simp -implicitDefEqProofs only [go_sem, zaa]
 rw [show decide (zeo a 30 <= 30) = decide (a.nodes <= 30) from qf3 a 30]
 refine ⟨fun h => ?_, fun h => ?_⟩
 ·refine callF (zz8 a hs) (by simp -implicitDefEqProofs only [go_sem, zaa]) ?_
  simp -implicitDefEqProofs only [go_sem, zaa]
  rw [zcx, h, Bool.true_and]
  congr 1
  rw [decide_eq_decide]; omega
 ·rw [zcx, h]; rfl
theorem zx2 (a : Tm) (H : ∀ x ∈ a.args, FC Tryz.prog 238 [tmD x] [bD x.names]) : FC Tryz.prog 238 [tmD a] [bD a.names] := by
 refine zc1 (fun hw => ?_) Tryz.call238
 have hl : a.args.length <= 9223372036854775807 := by simp only [tmD, zaa] at hw; simp [zf5, wfT, zra] at hw; exact hw.2.1
 have hN := a.names_eq
 simp only [tmD, zaa]
 refine zaj Tryz.call238 Tryz.func238 rfl (by kernel_rfl) (zav (by kernel_rfl)) ?_
 simp -implicitDefEqProofs only [go_sem, Tryz.results238]
 refine callF (zgl a.name) (by simp -implicitDefEqProofs only [go_sem]) ?_
 simp -implicitDefEqProofs only [go_sem]
 refine ⟨fun h => ?_, fun h => ?_⟩
 ·rw [hN, if_pos h]
  congr 1
  rw [Bool.eq_iff_iff]; simp
 ·rw [h] at hN
  simp only [Bool.false_eq_true, if_false] at hN
  refine callF (zlm a.name) (by simp -implicitDefEqProofs only [go_sem]) ?_
  simp -implicitDefEqProofs only [go_sem]
  by_cases hy : zcs a.name = true
  ·by_cases h4 : a.args.length <= 4
   ·rw [hy, show decide (a.args.length <= 4) = true by simpa using h4, Bool.true_and, Bool.true_and] at hN
    refine ⟨fun _ => ⟨fun h => by simp at h; omega, fun _ => ?_⟩, fun h => by simp [hy] at h⟩
    refine zad (fun k : Nat => hd [(1, .one (.bx 1 0)), (3, vI k)] [(1, [.t (.str a.name), .t (tmS a.args)])] []) (fun k => k <= a.args.length /\ a.names = (a.args.drop k).all Tm.names) (fun k => a.args.length - k) 0 (zab ?_) ?_ ?_
    ·simp -implicitDefEqProofs only [go_sem]
    ·exact ⟨by simp, hN⟩
    ·intro k ⟨hk, hr⟩
     by_cases hlt : k < a.args.length
     ·rw [List.drop_eq_getElem_cons hlt, List.all_cons] at hr
      simp -implicitDefEqProofs only [go_sem, zai, hlt, zaa]
      refine callF (H a.args[k] (List.getElem_mem hlt)) (by simp -implicitDefEqProofs only [go_sem, zaa]) ?_
      simp -implicitDefEqProofs only [go_sem, zaa]
      refine ⟨fun h => ?_, fun h => ⟨k + 1, ⟨hlt, ?_⟩, by omega, zab (by simp -implicitDefEqProofs only [go_sem]; rw [zak (by omega)])⟩⟩
      ·rw [hr, show a.args[k].names = false by simpa using h]; rfl
      ·rw [hr, show a.args[k].names = true by simpa using h]; rfl
     ·simp -implicitDefEqProofs only [go_sem, hlt]
      rw [hr, List.drop_of_length_le (by omega)]; rfl
   ·refine ⟨fun _ => ⟨fun _ => ?_, fun h => by simp at h; omega⟩, fun h => by simp [hy] at h⟩
    rw [hN, show decide (a.args.length <= 4) = false by simpa using h4, Bool.and_false]; rfl
  ·have hy' : zcs a.name = false := by simpa using hy
   refine ⟨fun h => by simp [hy'] at h, fun _ => ?_⟩
   rw [hN, hy']; rfl
theorem zjt : ∀ a : Tm, FC Tryz.prog 238 [tmD a] [bD a.names] := zba fun n xs ih => zx2 (.mk n xs) ih
theorem ztl (a : Tm) (hs : a.wt <= 1099511627776) : FC Tryz.prog 173 [tmD a] [bD a.good] := by
 simp only [tmD, zaa]
 refine zaj Tryz.call173 Tryz.func173 rfl (by kernel_rfl) (zav (by kernel_rfl)) ?_
 simp -implicitDefEqProofs only [go_sem, Tryz.results173]
 refine callF (zvu a hs) (by simp -implicitDefEqProofs only [go_sem, zaa]) ?_
 simp -implicitDefEqProofs only [go_sem, zaa]
 refine ⟨fun h => ?_, fun h => ?_⟩
 ·refine callF (zjt a) (by simp -implicitDefEqProofs only [go_sem, zaa]) ?_
  simp -implicitDefEqProofs only [go_sem, zaa]
  rw [Tm.good, h, Bool.true_and]
 ·rw [Tm.good, h, Bool.false_and]
theorem zun (a : Tm) (hs : a.wt <= 1099511627776) : FC Tryz.prog 177 [tmD a] [bD a.atomOk] := by
 have hN : a.atomOk = if (a.name == [61]) = true then decide (a.args.length = 2) && zcx a && a.args.all Tm.names else zcs a.name && a.good := rfl
 simp only [tmD, zaa]
 refine zaj Tryz.call177 Tryz.func177 rfl (by kernel_rfl) (zav (by kernel_rfl)) ?_
 simp -implicitDefEqProofs only [go_sem, Tryz.results177]
 refine ⟨fun h => ?_, fun h => ?_⟩
 ·rw [if_pos h] at hN
  by_cases h2 : a.args.length = 2
  ·have k0 : 0 < a.args.length := by omega
   have k1 : 1 < a.args.length := by omega
   have e2 : ((a.args.length : Int) == 2) = true := by simp [h2]
   have l0 : (0 : Int) < a.args.length := by omega
   have l1 : (1 : Int) < a.args.length := by omega
   rw [zy9 h2, show decide (a.args.length = 2) = true by simp [h2]] at hN
   simp only [Bool.true_and] at hN
   simp only [e2, qbq, zfg, qlp, zef, and_true]
   refine callF (zvu a hs) (by simp -implicitDefEqProofs only [go_sem, zaa, l0, zai, k0]) ?_
   simp -implicitDefEqProofs only [go_sem, zaa, l0, zai, k0]
   refine ⟨fun h3 => ?_, fun h3 => ?_⟩
   ·refine callF (zjt a.args[0]) (by simp -implicitDefEqProofs only [go_sem, zaa, l1, zai, k1]) ?_
    simp -implicitDefEqProofs only [go_sem, zaa, l1, zai, k1]
    refine ⟨fun h4 => ?_, fun h4 => ?_⟩
    ·refine callF (zjt a.args[1]) (by simp -implicitDefEqProofs only [go_sem, zaa]) ?_
     simp -implicitDefEqProofs only [go_sem, zaa]
     rw [hN, h3, h4]; rfl
    ·rw [hN, h3, h4]; rfl
   ·rw [hN, h3]; rfl
  ·have e2 : ((a.args.length : Int) == 2) = false := by simp; omega
   simp only [e2, qbq, qlj, zfg, zef, and_true, true_and, qmg]
   rw [hN, show decide (a.args.length = 2) = false by simpa using h2]; rfl
 ·rw [h] at hN
  simp only [Bool.false_eq_true, if_false] at hN
  refine callF (zlm a.name) (by simp -implicitDefEqProofs only [go_sem]) ?_
  simp -implicitDefEqProofs only [go_sem]
  refine ⟨fun h3 => ?_, fun h3 => ?_⟩
  ·refine callF (ztl a hs) (by simp -implicitDefEqProofs only [go_sem, zaa]) ?_
   simp -implicitDefEqProofs only [go_sem, zaa]
   rw [hN, h3, Bool.true_and]
  ·rw [hN, h3, Bool.false_and]
theorem zd5 (a : Tm) : FC Tryz.prog 283 [tmD a] [bD a.none] := by
 simp only [tmD, zaa]
 refine zaj Tryz.call283 Tryz.func283 rfl (by kernel_rfl) (zav (by kernel_rfl)) ?_
 simp -implicitDefEqProofs only [go_sem, Tryz.results283]
 unfold Tm.none
 refine ⟨fun h => ?_, fun h => ?_⟩
 ·rw [h, Bool.true_and]
  congr 1
  rw [Bool.eq_iff_iff]; simp
 ·rw [h]; rfl
def Fm.here (f : Fm) : Bool :=
 if (f.op == 1 || f.op == 2) = true then decide (f.parts.length = 0) && f.atom.none && (f.var == [])
 else if (f.op == 3) = true then decide (f.parts.length = 0) && f.atom.atomOk && (f.var == [])
 else if (f.op == 4) = true then decide (f.parts.length = 1) && f.atom.none && (f.var == [])
 else if zlf f.op = true then decide (f.parts.length = 2) && f.atom.none && (f.var == [])
 else if isQ f.op = true then decide (f.parts.length = 1) && f.atom.none && zay f.var
 else false
theorem zmf (n m : Nat) : ((n : Int) == (m : Int)) = decide (n = m) := by
 rw [Bool.eq_iff_iff]; simp only [beq_iff_eq, decide_eq_true_eq]; omega
theorem zst (n m : Nat) : ((n : Int) != (m : Int)) = !decide (n = m) := by
 rw [bne, zmf]
theorem zuy (o : Int) : o = 1 \/ o = 2 \/ o = 3 \/ o = 4 \/ o = 5 \/ o = 6 \/ o = 7 \/ o = 8 \/ o = 9 \/ (o ≠ 1 /\ o ≠ 2 /\ o ≠ 3 /\ o ≠ 4 /\ o ≠ 5 /\ o ≠ 6 /\ o ≠ 7 /\ o ≠ 8 /\ o ≠ 9) := by omega
set_option maxHeartbeats 4000000 in
theorem qhh (f : Fm) (hs : f.wt <= 1099511627776) : FC Tryz.prog 242 [fmD f] [bD f.here] := by
 obtain ⟨o, a, v, ps⟩ := f
 have ha : a.wt <= 1099511627776 := Nat.le_trans (zmm (.mk o a v ps)) hs
 have e0 : ((ps.length : Int) == 0) = decide (ps.length = 0) := zmf _ 0
 have e1 : ((ps.length : Int) == 1) = decide (ps.length = 1) := zmf _ 1
 have e2 : ((ps.length : Int) == 2) = decide (ps.length = 2) := zmf _ 2
 rcases zuy o with rfl | rfl | rfl | rfl | rfl | rfl | rfl | rfl | rfl | ⟨n1, n2, n3, n4, n5, n6, n7, n8, n9⟩
 ·have hN : Fm.here (.mk 1 a v ps) = (decide (ps.length = 0) && a.none && (v == [])) := rfl
  simp only [fmD, zac, Fm.op, Fm.atom, Fm.var, Fm.parts]
  refine zaj Tryz.call242 Tryz.func242 rfl (by kernel_rfl) (zav (by kernel_rfl)) ?_
  simp -implicitDefEqProofs only [go_sem, Tryz.results242]
  simp only [e0]
  refine ⟨fun h => ?_, fun h => ?_⟩
  ·refine callF (zd5 a) (by simp -implicitDefEqProofs only [go_sem, zaa]) ?_
   simp -implicitDefEqProofs only [go_sem, zaa]
   refine ⟨fun h1 => ?_, fun h1 => ?_⟩
   ·rw [hN, h, h1]; rfl
   ·rw [hN, h, h1]; rfl
  ·rw [hN, h]; rfl
 ·have hN : Fm.here (.mk 2 a v ps) = (decide (ps.length = 0) && a.none && (v == [])) := rfl
  simp only [fmD, zac, Fm.op, Fm.atom, Fm.var, Fm.parts]
  refine zaj Tryz.call242 Tryz.func242 rfl (by kernel_rfl) (zav (by kernel_rfl)) ?_
  simp -implicitDefEqProofs only [go_sem, Tryz.results242]
  simp only [e0]
  refine ⟨fun h => ?_, fun h => ?_⟩
  ·refine callF (zd5 a) (by simp -implicitDefEqProofs only [go_sem, zaa]) ?_
   simp -implicitDefEqProofs only [go_sem, zaa]
   refine ⟨fun h1 => ?_, fun h1 => ?_⟩
   ·rw [hN, h, h1]; rfl
   ·rw [hN, h, h1]; rfl
  ·rw [hN, h]; rfl
 ·have hN : Fm.here (.mk 3 a v ps) = (decide (ps.length = 0) && a.atomOk && (v == [])) := rfl
  simp only [fmD, zac, Fm.op, Fm.atom, Fm.var, Fm.parts]
  refine zaj Tryz.call242 Tryz.func242 rfl (by kernel_rfl) (zav (by kernel_rfl)) ?_
  simp -implicitDefEqProofs only [go_sem, Tryz.results242]
  simp only [e0]
  refine ⟨fun h => ?_, fun h => ?_⟩
  ·refine callF (zun a ha) (by simp -implicitDefEqProofs only [go_sem, zaa]) ?_
   simp -implicitDefEqProofs only [go_sem, zaa]
   refine ⟨fun h1 => ?_, fun h1 => ?_⟩
   ·rw [hN, h, h1]; rfl
   ·rw [hN, h, h1]; rfl
  ·rw [hN, h]; rfl
 ·have hN : Fm.here (.mk 4 a v ps) = (decide (ps.length = 1) && a.none && (v == [])) := rfl
  simp only [fmD, zac, Fm.op, Fm.atom, Fm.var, Fm.parts]
  refine zaj Tryz.call242 Tryz.func242 rfl (by kernel_rfl) (zav (by kernel_rfl)) ?_
  simp -implicitDefEqProofs only [go_sem, Tryz.results242]
  simp only [e1]
  refine ⟨fun h => ?_, fun h => ?_⟩
  ·refine callF (zd5 a) (by simp -implicitDefEqProofs only [go_sem, zaa]) ?_
   simp -implicitDefEqProofs only [go_sem, zaa]
   refine ⟨fun h1 => ?_, fun h1 => ?_⟩
   ·rw [hN, h, h1]; rfl
   ·rw [hN, h, h1]; rfl
  ·rw [hN, h]; rfl
 ·have hN : Fm.here (.mk 5 a v ps) = (decide (ps.length = 2) && a.none && (v == [])) := rfl
  simp only [fmD, zac, Fm.op, Fm.atom, Fm.var, Fm.parts]
  refine zaj Tryz.call242 Tryz.func242 rfl (by kernel_rfl) (zav (by kernel_rfl)) ?_
  simp -implicitDefEqProofs only [go_sem, Tryz.results242]
  simp only [e2]
  refine ⟨fun h => ?_, fun h => ?_⟩
  ·refine callF (zd5 a) (by simp -implicitDefEqProofs only [go_sem, zaa]) ?_
   simp -implicitDefEqProofs only [go_sem, zaa]
   refine ⟨fun h1 => ?_, fun h1 => ?_⟩
   ·rw [hN, h, h1]; rfl
   ·rw [hN, h, h1]; rfl
  ·rw [hN, h]; rfl
 ·have hN : Fm.here (.mk 6 a v ps) = (decide (ps.length = 2) && a.none && (v == [])) := rfl
  simp only [fmD, zac, Fm.op, Fm.atom, Fm.var, Fm.parts]
  refine zaj Tryz.call242 Tryz.func242 rfl (by kernel_rfl) (zav (by kernel_rfl)) ?_
  simp -implicitDefEqProofs only [go_sem, Tryz.results242]
  simp only [e2]
  refine ⟨fun h => ?_, fun h => ?_⟩
  ·refine callF (zd5 a) (by simp -implicitDefEqProofs only [go_sem, zaa]) ?_
   simp -implicitDefEqProofs only [go_sem, zaa]
   refine ⟨fun h1 => ?_, fun h1 => ?_⟩
   ·rw [hN, h, h1]; rfl
   ·rw [hN, h, h1]; rfl
  ·rw [hN, h]; rfl
 ·have hN : Fm.here (.mk 7 a v ps) = (decide (ps.length = 2) && a.none && (v == [])) := rfl
  simp only [fmD, zac, Fm.op, Fm.atom, Fm.var, Fm.parts]
  refine zaj Tryz.call242 Tryz.func242 rfl (by kernel_rfl) (zav (by kernel_rfl)) ?_
  simp -implicitDefEqProofs only [go_sem, Tryz.results242]
  simp only [e2]
  refine ⟨fun h => ?_, fun h => ?_⟩
  ·refine callF (zd5 a) (by simp -implicitDefEqProofs only [go_sem, zaa]) ?_
   simp -implicitDefEqProofs only [go_sem, zaa]
   refine ⟨fun h1 => ?_, fun h1 => ?_⟩
   ·rw [hN, h, h1]; rfl
   ·rw [hN, h, h1]; rfl
  ·rw [hN, h]; rfl
 ·have hN : Fm.here (.mk 8 a v ps) = (decide (ps.length = 1) && a.none && zay v) := rfl
  simp only [fmD, zac, Fm.op, Fm.atom, Fm.var, Fm.parts]
  refine zaj Tryz.call242 Tryz.func242 rfl (by kernel_rfl) (zav (by kernel_rfl)) ?_
  simp -implicitDefEqProofs only [go_sem, Tryz.results242]
  simp only [e1]
  refine ⟨fun h => ?_, fun h => ?_⟩
  ·refine callF (zd5 a) (by simp -implicitDefEqProofs only [go_sem, zaa]) ?_
   simp -implicitDefEqProofs only [go_sem, zaa]
   refine ⟨fun h1 => ?_, fun h1 => ?_⟩
   ·refine callF (zgl v) (by simp -implicitDefEqProofs only [go_sem]) ?_
    simp -implicitDefEqProofs only [go_sem]
    rw [hN, h, h1]; rfl
   ·rw [hN, h, h1]; rfl
  ·rw [hN, h]; rfl
 ·have hN : Fm.here (.mk 9 a v ps) = (decide (ps.length = 1) && a.none && zay v) := rfl
  simp only [fmD, zac, Fm.op, Fm.atom, Fm.var, Fm.parts]
  refine zaj Tryz.call242 Tryz.func242 rfl (by kernel_rfl) (zav (by kernel_rfl)) ?_
  simp -implicitDefEqProofs only [go_sem, Tryz.results242]
  simp only [e1]
  refine ⟨fun h => ?_, fun h => ?_⟩
  ·refine callF (zd5 a) (by simp -implicitDefEqProofs only [go_sem, zaa]) ?_
   simp -implicitDefEqProofs only [go_sem, zaa]
   refine ⟨fun h1 => ?_, fun h1 => ?_⟩
   ·refine callF (zgl v) (by simp -implicitDefEqProofs only [go_sem]) ?_
    simp -implicitDefEqProofs only [go_sem]
    rw [hN, h, h1]; rfl
   ·rw [hN, h, h1]; rfl
  ·rw [hN, h]; rfl
 ·have hN : Fm.here (.mk o a v ps) = false := by simp [Fm.here, zlf, isQ, Fm.op, *]
  have f1 : (o == 1) = false := by simpa using n1
  have f2 : (o == 2) = false := by simpa using n2
  have f3 : (o == 3) = false := by simpa using n3
  have f4 : (o == 4) = false := by simpa using n4
  have f5 : (o == 5) = false := by simpa using n5
  have f6 : (o == 6) = false := by simpa using n6
  have f7 : (o == 7) = false := by simpa using n7
  have f8 : (o == 8) = false := by simpa using n8
  have f9 : (o == 9) = false := by simpa using n9
  simp only [fmD, zac, Fm.op, Fm.atom, Fm.var, Fm.parts]
  refine zaj Tryz.call242 Tryz.func242 rfl (by kernel_rfl) (zav (by kernel_rfl)) ?_
  simp -implicitDefEqProofs only [go_sem, Tryz.results242, f1, f2, f3, f4, f5, f6, f7, f8, f9]
  rw [hN]
def Fm.forms : Fm -> Bool := Fm.fold fun o a v ps rs => (Fm.mk o a v ps).here && rs.all id
theorem Fm.forms_eq (f : Fm) : f.forms = (f.here && f.parts.all Fm.forms) := by
 unfold Fm.forms
 rw [Fm.fold_eq]
 simp only [List.all_map, Fm.eta]
 rfl
theorem zxy (a : Fm) (hs : a.wt <= 1099511627776) (H : ∀ x ∈ a.parts, FC Tryz.prog 180 [fmD x] [bD x.forms]) : FC Tryz.prog 180 [fmD a] [bD a.forms] := by
 have hl : a.parts.length <= 9223372036854775807 := by rw [Fm.wt_eq] at hs; omega
 have hN := a.forms_eq
 simp only [fmD, zac]
 refine zaj Tryz.call180 Tryz.func180 rfl (by kernel_rfl) (zav (by kernel_rfl)) ?_
 simp -implicitDefEqProofs only [go_sem, Tryz.results180]
 refine callF (qhh a hs) (by simp -implicitDefEqProofs only [go_sem, zac]) ?_
 simp -implicitDefEqProofs only [go_sem, zac]
 refine ⟨fun h => ?_, fun h => ?_⟩
 ·rw [hN, show a.here = false by simpa using h]; rfl
 ·rw [show a.here = true by simpa using h, Bool.true_and] at hN
  refine zad (fun k : Nat => hd [(1, .one (.bx 1 0)), (3, vI k)] [(1, [.t (.int .i64 a.op), .t (.str a.atom.name), .t (tmS a.atom.args), .t (.str a.var), .t (fmS a.parts)])] []) (fun k => k <= a.parts.length /\ a.forms = (a.parts.drop k).all Fm.forms) (fun k => a.parts.length - k) 0 (zab ?_) ?_ ?_
  ·simp -implicitDefEqProofs only [go_sem]
  ·exact ⟨by simp, hN⟩
  ·intro k ⟨hk, hr⟩
   by_cases hlt : k < a.parts.length
   ·rw [List.drop_eq_getElem_cons hlt, List.all_cons] at hr
    simp -implicitDefEqProofs only [go_sem, zai, hlt, zac]
    refine callF (H a.parts[k] (List.getElem_mem hlt)) (by simp -implicitDefEqProofs only [go_sem, zac]) ?_
    simp -implicitDefEqProofs only [go_sem, zac]
    refine ⟨fun h => ?_, fun h => ⟨k + 1, ⟨hlt, ?_⟩, by omega, zab (by simp -implicitDefEqProofs only [go_sem]; rw [zak (by omega)])⟩⟩
    ·rw [hr, show a.parts[k].forms = false by simpa using h]; rfl
    ·rw [hr, show a.parts[k].forms = true by simpa using h]; rfl
   ·simp -implicitDefEqProofs only [go_sem, hlt]
    rw [hr, List.drop_of_length_le (by omega)]; rfl
theorem qcd : ∀ a : Fm, a.wt <= 1099511627776 -> FC Tryz.prog 180 [fmD a] [bD a.forms] :=
 za7 fun o a v xs ih hs => zxy (.mk o a v xs) hs fun x hx => ih x hx (Nat.le_trans (zbx (a := .mk o a v xs) hx) hs)
def Fm.good (a : Fm) : Bool := decide (a.nodes <= 40) && a.forms
theorem ziw (a : Fm) (hs : a.wt <= 1099511627776) : FC Tryz.prog 114 [fmD a] [bD a.good] := by
 simp only [fmD, zac]
 refine zaj Tryz.call114 Tryz.func114 rfl (by kernel_rfl) (zav (by kernel_rfl)) ?_
 simp -implicitDefEqProofs only [go_sem, Tryz.results114]
 refine callF (qe2 a hs 40 (by omega) (by omega)) (by simp -implicitDefEqProofs only [go_sem, zac]) ?_
 simp -implicitDefEqProofs only [go_sem, zac]
 rw [show decide (zes a 40 <= 40) = decide (a.nodes <= 40) from qhp a 40]
 refine ⟨fun h => ?_, fun h => ?_⟩
 ·refine callF (qcd a hs) (by simp -implicitDefEqProofs only [go_sem, zac]) ?_
  simp -implicitDefEqProofs only [go_sem, zac]
  rw [Fm.good, h, Bool.true_and]
 ·rw [Fm.good, h, Bool.false_and]
end Go.Proofs.YtemnhgmgeijkcaaGreat
namespace Go.Proofs.YtemnhgmgeijkcaaGreat
set_option linter.unusedSimpArgs false
set_option linter.unusedVariables false
set_option linter.unusedSectionVars false
set_option maxRecDepth 4000
open Go.RowKit
theorem qgc : ∀ a : Tm, a.wt <= 1099511627776 -> ∀ ys : List Str, ys.length + (voS a).length <= 1073741824 -> GC Tryz.prog 241 [(true, .one (zb9 ys)), (false, tmD a)] [.one (zb9 (zbm ys (voS a)))] :=
 zba fun n xs ih hw ys hs => qcn (.mk n xs) (fun x hx ys hs => ih x hx (Nat.le_trans (zsw (a := .mk n xs) hx) hw) ys hs) ys hs (by have := Tm.wt_eq (.mk n xs); omega)
theorem zn3 (a : Tm) (hw : a.wt <= 1099511627776) (hs : (voS a).length <= 1073741824) : FC Tryz.prog 178 [tmD a] [.one (zb9 (zbm [] (voS a)))] := by
 have HC := qgc a hw [] (by simpa using hs)
 simp only [tmD, zaa] at HC ⊢
 refine zb8 Tryz.call178 Tryz.func178 rfl (by kernel_rfl) (zav (by kernel_rfl)) ?_
 simp -implicitDefEqProofs only [go_sem, Tryz.results178]
 refine za2 (by simp -implicitDefEqProofs only [go_sem]) ?_
 simp -implicitDefEqProofs only [go_sem]
 refine zco [] [3, 4] [] (HC) (by simp -implicitDefEqProofs only [go_sem]) (by simp -implicitDefEqProofs only [go_sem]) (by simp -implicitDefEqProofs only [go_sem]) (by simp -implicitDefEqProofs only [go_sem]) ?_
 simp -implicitDefEqProofs only [go_sem]
theorem zvs {s : Str} (h : zay s = true) : zkm (s.getD 0 0) = true /\ 0 < s.length := by
 unfold zay at h
 rw [Bool.and_eq_true] at h
 cases s with
 | nil => exact absurd h.2 (by decide)
 | cons b s =>
  have := zuu (s := b :: s) (by simp)
  rw [h.1] at this
  have := (Bool.and_eq_true _ _).mp this.symm
  exact ⟨this.1, by simp⟩
theorem up_low {b : UInt8} (h : zfp b = true) : zkm b = false := by
 unfold zfp zkm at *
 simp only [Bool.and_eq_true, decide_eq_true_eq, Bool.and_eq_false_iff, decide_eq_false_iff_not] at *
 omega
theorem zoc {s : Str} (h : zcs s = true) : zkm (s.getD 0 0) = false /\ 0 < s.length := by
 unfold zcs at h
 simp only [Bool.and_eq_true] at h
 cases s with
 | nil => exact absurd h.1.2 (by decide)
 | cons b s =>
  have := zot (s := b :: s) (by simp)
  rw [h.1.1] at this
  have := (Bool.and_eq_true _ _).mp this.symm
  exact ⟨up_low this.1, by simp⟩
theorem zmj : ∀ a : Tm, a.names = true -> voI a = voS a /\ a.ne = true := zba fun n xs ih h => by
 rw [Tm.names_eq] at h
 rw [zt2, zkb, Tm.ne_eq']
 change (if zay n = true then decide (xs.length = 0) else zcs n && decide (xs.length <= 4) && xs.all Tm.names) = true at h
 change (if (decide (xs.length = 0) && zkm (n.getD 0 0)) = true then [n] else (xs.map voI).flatten) = (if zay n = true then [n] else (xs.map voS).flatten) /\ ((!decide (xs.length = 0) || decide (0 < n.length)) && xs.all Tm.ne) = true
 change ∀ x ∈ xs, _ at ih
 by_cases hv : zay n = true
 ·rw [if_pos hv] at h ⊢
  obtain ⟨h1, h2⟩ := zvs hv
  have h : xs.length = 0 := of_decide_eq_true h
  have hx : xs = [] := List.length_eq_zero_iff.1 h
  subst hx
  rw [h1]
  exact ⟨rfl, by simp [h2]⟩
 ·rw [if_neg hv] at h ⊢
  simp only [Bool.and_eq_true] at h
  obtain ⟨h1, h2⟩ := zoc h.1.1
  rw [h1, Bool.and_false, if_neg (by simp)]
  have hI := fun x hx => ih x hx (List.all_eq_true.1 h.2 x hx)
  refine ⟨by rw [List.map_congr_left fun x hx => (hI x hx).1], ?_⟩
  rw [Bool.and_eq_true]
  exact ⟨by simp [h2], List.all_eq_true.2 fun x hx => (hI x hx).2⟩
theorem qlx {a : Tm} (h : a.atomOk = true) : voI a = voS a /\ a.ne = true := by
 unfold Tm.atomOk at h
 split at h
 ·rename_i he
  have he : a.name = [61] := by simpa using he
  simp only [Bool.and_eq_true, decide_eq_true_eq] at h
  rw [zt2, zkb, Tm.ne_eq', he]
  have hI := fun x hx => zmj x (List.all_eq_true.1 h.2 x hx)
  rw [show zkm (([61] : Str).getD 0 0) = false by decide, show zay [61] = false by decide, Bool.and_false, if_neg (by simp), if_neg (by simp)]
  refine ⟨by rw [List.map_congr_left fun x hx => (hI x hx).1], ?_⟩
  rw [Bool.and_eq_true]
  exact ⟨by simp, List.all_eq_true.2 fun x hx => (hI x hx).2⟩
 ·simp only [Bool.and_eq_true] at h
  have := h.2
  unfold Tm.good at this
  rw [Bool.and_eq_true] at this
  exact zmj a this.2
theorem zjp {f : Fm} (h : f.here = true) (h3 : f.op = 3) : f.atom.atomOk = true /\ f.parts = [] := by
 unfold Fm.here at h
 rw [h3] at h
 simp only [show ((3 : Int) == 1 || (3 : Int) == 2) = false by decide, show ((3 : Int) == 3) = true by decide, if_true, Bool.false_eq_true, if_false, Bool.and_eq_true, decide_eq_true_eq, List.length_eq_zero_iff] at h
 exact ⟨h.1.2, h.1.1⟩
def vf : Fm -> List Str -> List Str := Fm.fold fun o a v _ rs b => if (o == 3) = true then (zbm [] (voS a)).filter (fun s => !b.contains s) else (rs.map fun r => r (if isQ o = true then b ++ [v] else b)).flatten
theorem qld (f : Fm) (b : List Str) : vf f b = if (f.op == 3) = true then (zbm [] (voS f.atom)).filter (fun s => !b.contains s) else (f.parts.map fun x => vf x (if isQ f.op = true then b ++ [f.var] else b)).flatten := by
 unfold vf
 rw [Fm.fold_eq]
 simp only [List.map_map]
 rfl
theorem zm6 : ∀ a : Tm, (voS a).length <= 1 + a.wt := zba fun n xs ih => by
 rw [zkb, Tm.wt_eq]
 change (if zay n = true then [n] else (xs.map voS).flatten).length <= 1 + (n.length + xs.length + (xs.map Tm.wt).sum)
 split
 ·simp
 ·have : ((xs.map voS).flatten).length <= xs.length + (xs.map Tm.wt).sum := by
   revert ih
   induction xs with
   | nil => simp
   | cons x xs ih2 =>
    intro ih
    have h1 := ih x (by simp)
    have h2 := ih2 fun y hy => ih y (by simp [hy])
    simp only [List.map_cons, List.flatten_cons, List.length_append, List.sum_cons, List.length_cons]
    omega
  omega
theorem qiv : ∀ (f : Fm) (b : List Str), (vf f b).length <= f.nodes + f.wt := za7 fun o a v ps ih b => by
 rw [qld, Fm.nodes_eq, Fm.wt_eq]
 change (if (o == 3) = true then (zbm [] (voS a)).filter (fun s => !b.contains s) else (ps.map fun x => vf x (if isQ o = true then b ++ [v] else b)).flatten).length <= 1 + (ps.map Fm.nodes).sum + (a.wt + v.length + ps.length + (ps.map Fm.wt).sum)
 split
 ·have h1 := List.length_filter_le (fun s => !b.contains s) (zbm [] (voS a))
  have h2 := zda (voS a) []
  have h3 := zm6 a
  simp only [List.length_nil] at h2
  omega
 ·have : ∀ b, ((ps.map fun x => vf x b).flatten).length <= (ps.map Fm.nodes).sum + (ps.map Fm.wt).sum := fun b => by
   revert ih
   induction ps with
   | nil => simp
   | cons x xs ih2 =>
    intro ih
    have h1 := ih x (by simp) b
    have h2 := ih2 fun y hy => ih y (by simp [hy])
    simp only [List.map_cons, List.flatten_cons, List.length_append, List.sum_cons]
    omega
  have := this (if isQ o = true then b ++ [v] else b)
  omega
def zga (b l : List Str) (s : Str) : List Str := if (!b.contains s && !l.contains s) = true then l ++ [s] else l
theorem zin (b : List Str) : ∀ (ss l : List Str), ss.foldl (zga b) l = zb3 l (ss.filter fun s => !b.contains s)
 | [], l => rfl
 | s :: ss, l => by
  rw [List.foldl_cons, zin b ss, List.filter_cons]
  unfold zga
  by_cases h : b.contains s = true
  ·rw [h]; simp
  ·have h : b.contains s = false := by simpa using h
   rw [h, if_pos (show (!false) = true from rfl)]
   show _ = zb3 (zk3 l s) _
   congr 1
   unfold zk3
   cases l.contains s <;> rfl
theorem qao {b l : List Str} {s : Str} (h : (!b.contains s) = true) (h2 : (!l.contains s) = true) : zga b l s = l ++ [s] := by unfold zga; rw [h, h2]; rfl
theorem qfp {b l : List Str} {s : Str} (h2 : (!l.contains s) = false) : zga b l s = l := by unfold zga; rw [h2, Bool.and_false]; rfl
theorem qkv {b l : List Str} {s : Str} (h : (!b.contains s) = false) : zga b l s = l := by unfold zga; rw [h, Bool.false_and]; rfl
theorem qcq (b l : List Str) (s : Str) : (zga b l s).length <= l.length + 1 := by unfold zga; split <;> simp
theorem zlx (b : List Str) : ∀ (ss l : List Str), (ss.foldl (zga b) l).length <= l.length + ss.length
 | [], l => by simp
 | s :: ss, l => by have := zlx b ss (zga b l s); have := qcq b l s; simp only [List.foldl_cons, List.length_cons] at *; omega
theorem zfr {α β : Type} (g : β -> α -> β) (xs : List α) (z : β) (k : Nat) (h : k < xs.length) : (xs.take (k + 1)).foldl g z = g ((xs.take k).foldl g z) xs[k] := by
 rw [List.take_succ_eq_append_getElem h, List.foldl_append]; rfl
set_option maxHeartbeats 2000000 in
theorem qef (f : Fm) (hf : f.forms = true) (hw : f.wt <= 1048576) (H : ∀ x ∈ f.parts, ∀ ys b : List Str, ys.length + (vf x b).length <= 1073741824 -> b.length + x.nodes <= 1073741824 -> GC Tryz.prog 183 [(true, .one (zb9 ys)), (false, fmD x), (false, .one (zb9 b))] [.one (zb9 (zb3 ys (vf x b)))])
  (ys b : List Str) (hs : ys.length + (vf f b).length <= 1073741824) (hb : b.length + f.nodes <= 1073741824) : GC Tryz.prog 183 [(true, .one (zb9 ys)), (false, fmD f), (false, .one (zb9 b))] [.one (zb9 (zb3 ys (vf f b)))] := by
 have hv := qld f b
 have hN := f.nodes_eq
 have hW := f.wt_eq
 rw [Fm.forms_eq, Bool.and_eq_true] at hf
 simp only [fmD, zac]
 refine zk7 Tryz.call183 Tryz.func183 rfl (by kernel_rfl) (by simp only [List.length_cons, List.length_nil, Tryz.ntmps183]; omega) (by simp [zbo, T.isPin]) ?_
 simp -implicitDefEqProofs only [go_sem, Tryz.results183]
 by_cases h3 : f.op = 3
 ·obtain ⟨ha, hp⟩ := zjp hf.1 h3
  obtain ⟨ev, ene⟩ := qlx ha
  have e3 : (f.op == 3) = true := by simp [h3]
  rw [if_pos e3] at hv
  have hvl := zm6 f.atom
  have HV := zrd f.atom ene (by omega) (by rw [ev]; omega)
  rw [ev] at HV
  have hPl := zda (voS f.atom) []
  generalize zbm [] (voS f.atom) = V at hv HV hPl
  rw [hv, <- zin b V ys]
  simp only [tmD, zaa] at HV
  simp -implicitDefEqProofs only [go_sem, e3]
  refine zla (HV) (by simp -implicitDefEqProofs only [go_sem]) ?_
  simp -implicitDefEqProofs only [go_sem]
  refine zad (fun k : Nat => hd [(0, .one (.ow 0 0)), (2, .one (.rn (zb9 b))), (16, .one (.rn (zb9 V))), (17, vI V.length), (18, vI k)] [] [(0, ⟨true, 1, ((V.take k).foldl (zga b) ys).map fun s => [.str s], 0, true⟩)]) (fun k => k <= V.length) (fun k => V.length - k) 0 (zab ?_) (Nat.zero_le _) ?_
  ·simp -implicitDefEqProofs only [go_sem]
   rfl
  ·intro k hk
   by_cases hlt : k < V.length
   ·have hL := zlx b (V.take k) ys
    rw [List.length_take] at hL
    have hnx := zfr (zga b) V ys k hlt
    simp only [List.length_nil] at hPl
    simp -implicitDefEqProofs only [go_sem, zai, hlt]
    refine callF (zdq b V[k]) (by simp -implicitDefEqProofs only [go_sem]) ?_
    simp -implicitDefEqProofs only [go_sem]
    refine ⟨fun h => ?_, fun h => ?_⟩
    ·refine callF (zdq ((V.take k).foldl (zga b) ys) V[k]) (by simp -implicitDefEqProofs only [go_sem]) ?_
     simp -implicitDefEqProofs only [go_sem]
     have hy2 : ((V.take k).foldl (zga b) ys).length <= 4294967295 := by omega
     refine ⟨fun h2 => ?_, fun h2 => ?_⟩
     ·refine za2 (by simp -implicitDefEqProofs only [go_sem]) ?_
      simp -implicitDefEqProofs only [go_sem]
      refine apD true (by simp -implicitDefEqProofs only [go_sem, hy2, ne_eq, List.length_map]) ?_
      simp -implicitDefEqProofs only [go_sem, hy2, ne_eq, List.length_map]
      refine ⟨k + 1, hlt, by omega, zab ?_⟩
      simp -implicitDefEqProofs only [go_sem]
      rw [zak (by omega), hnx, qao h h2]
      exact ⟨rfl, by simp⟩
     ·refine ⟨k + 1, hlt, by omega, zab ?_⟩
      simp -implicitDefEqProofs only [go_sem]
      rw [zak (by omega), hnx, qfp h2]
      exact ⟨rfl, rfl⟩
    ·refine ⟨k + 1, hlt, by omega, zab ?_⟩
     simp -implicitDefEqProofs only [go_sem]
     rw [zak (by omega), hnx, qkv h]
     exact ⟨rfl, rfl⟩
   ·simp -implicitDefEqProofs only [go_sem, hlt]
    exact Or.inl (by rw [List.take_of_length_le (by omega)])
 ·have e3 : (f.op == 3) = false := by simp [h3]
  rw [e3, if_neg (by simp)] at hv
  simp -implicitDefEqProofs only [go_sem, e3]
  refine callF (zal f.op) (by simp -implicitDefEqProofs only [go_sem]) ?_
  simp -implicitDefEqProofs only [go_sem]
  refine ⟨fun h => ?_, fun h => ?_⟩
  ·rw [if_pos h] at hv
   rw [hv] at hs ⊢
   have hb1 : b.length <= 4294967295 := by omega
   refine drawn (by kernel_rfl) ?_
   simp -implicitDefEqProofs only [go_sem]
   refine za1 (zlo b (by omega)) (by simp -implicitDefEqProofs only [go_sem]) ?_
   simp -implicitDefEqProofs only [go_sem]
   refine zbr (by simp -implicitDefEqProofs only [go_sem]) ?_
   simp -implicitDefEqProofs only [go_sem]
   refine zjo true (by simp -implicitDefEqProofs only [go_sem, hb1, ne_eq, List.length_map]) ?_
   simp -implicitDefEqProofs only [go_sem, hb1, ne_eq, List.length_map]
   refine ⟨by kernel_rfl, ?_⟩
   refine zad (fun k : Nat => hd [(0, .one (.ow 0 0)), (2, .one (.rn (zb9 (b ++ [f.var])))), (48, .one (.rn (fmS f.parts))), (49, vI f.parts.length), (50, vI k)] [] [(0, ⟨true, 1, (zb3 ys ((f.parts.take k).map fun x => vf x ((b ++ [f.var]))).flatten).map fun s => [.str s], 0, true⟩)]) (fun k => k <= f.parts.length) (fun k => f.parts.length - k) 0 (zab ?_) (Nat.zero_le _) ?_
   ·simp -implicitDefEqProofs only [go_sem]
    exact ⟨by simp, rfl⟩
   ·intro k hk
    by_cases hlt : k < f.parts.length
    ·have hq := zby (fun x => vf x ((b ++ [f.var]))) f.parts k hlt
     have hL := zdy ((f.parts.take k).map fun x => vf x ((b ++ [f.var]))).flatten ys
     have hnx := zbk Fm.nodes f.parts _ (List.getElem_mem hlt)
     have HC := H f.parts[k] (List.getElem_mem hlt) (zb3 ys ((f.parts.take k).map fun x => vf x ((b ++ [f.var]))).flatten) ((b ++ [f.var])) (by omega) (by simp only [List.length_append, List.length_cons, List.length_nil]; omega)
     rw [<- zhd, <- zcu (fun x => vf x ((b ++ [f.var]))) f.parts k hlt] at HC
     simp only [fmD, zac f.parts[k]] at HC
     simp -implicitDefEqProofs only [go_sem, zai, hlt, zac f.parts[k]]
     refine zco [2, 48, 49, 50] [54, 55, 56] [] (HC) (by simp -implicitDefEqProofs only [go_sem]) (by simp -implicitDefEqProofs only [go_sem]) (by simp -implicitDefEqProofs only [go_sem]) (by simp -implicitDefEqProofs only [go_sem]) ?_
     simp -implicitDefEqProofs only [go_sem]
     refine ⟨k + 1, hlt, by omega, zcr 0 1824 ?_⟩
     simp -implicitDefEqProofs only [go_sem]
     rw [zak (by omega)]
    ·simp -implicitDefEqProofs only [go_sem, hlt]
     exact Or.inl (by rw [List.take_of_length_le (by omega)])
  ·rw [h, if_neg (by simp)] at hv
   rw [hv] at hs ⊢
   refine zad (fun k : Nat => hd [(0, .one (.ow 0 0)), (2, .one (.rn (zb9 b))), (48, .one (.rn (fmS f.parts))), (49, vI f.parts.length), (50, vI k)] [] [(0, ⟨true, 1, (zb3 ys ((f.parts.take k).map fun x => vf x (b)).flatten).map fun s => [.str s], 0, true⟩)]) (fun k => k <= f.parts.length) (fun k => f.parts.length - k) 0 (zab ?_) (Nat.zero_le _) ?_
   ·simp -implicitDefEqProofs only [go_sem]
    rfl
   ·intro k hk
    by_cases hlt : k < f.parts.length
    ·have hq := zby (fun x => vf x (b)) f.parts k hlt
     have hL := zdy ((f.parts.take k).map fun x => vf x (b)).flatten ys
     have hnx := zbk Fm.nodes f.parts _ (List.getElem_mem hlt)
     have HC := H f.parts[k] (List.getElem_mem hlt) (zb3 ys ((f.parts.take k).map fun x => vf x (b)).flatten) (b) (by omega) (by omega)
     rw [<- zhd, <- zcu (fun x => vf x (b)) f.parts k hlt] at HC
     simp only [fmD, zac f.parts[k]] at HC
     simp -implicitDefEqProofs only [go_sem, zai, hlt, zac f.parts[k]]
     refine zco [2, 48, 49, 50] [54, 55, 56] [] (HC) (by simp -implicitDefEqProofs only [go_sem]) (by simp -implicitDefEqProofs only [go_sem]) (by simp -implicitDefEqProofs only [go_sem]) (by simp -implicitDefEqProofs only [go_sem]) ?_
     simp -implicitDefEqProofs only [go_sem]
     refine ⟨k + 1, hlt, by omega, zcr 0 1824 ?_⟩
     simp -implicitDefEqProofs only [go_sem]
     rw [zak (by omega)]
    ·simp -implicitDefEqProofs only [go_sem, hlt]
     exact Or.inl (by rw [List.take_of_length_le (by omega)])
theorem qh5 : ∀ f : Fm, f.forms = true -> f.wt <= 1048576 -> ∀ ys b : List Str, ys.length + (vf f b).length <= 1073741824 -> b.length + f.nodes <= 1073741824 -> GC Tryz.prog 183 [(true, .one (zb9 ys)), (false, fmD f), (false, .one (zb9 b))] [.one (zb9 (zb3 ys (vf f b)))] :=
 za7 fun o a v ps ih hf hw ys b hs hb => qef (.mk o a v ps) hf hw (fun x hx ys b hs hb => ih x hx (by rw [Fm.forms_eq, Bool.and_eq_true] at hf; exact List.all_eq_true.1 hf.2 x hx) (Nat.le_trans (zbx (a := .mk o a v ps) hx) hw) ys b hs hb) ys b hs hb
theorem free_c (f : Fm) (hf : f.forms = true) (hw : f.wt <= 1048576) : FC Tryz.prog 117 [fmD f] [.one (zb9 (zbm [] (vf f [])))] := by
 have h1 := qiv f []
 have h2 := zcd f
 have HC := qh5 f hf hw [] [] (by simp only [List.length_nil]; omega) (by simp only [List.length_nil]; omega)
 have HS := zjk (zb3 [] (vf f [])) (by have := zdy (vf f []) []; simp only [List.length_nil] at this; omega)
 rw [znc] at HS
 simp only [fmD, zac] at HC ⊢
 refine zb8 Tryz.call117 Tryz.func117 rfl (by kernel_rfl) (zav (by kernel_rfl)) ?_
 simp -implicitDefEqProofs only [go_sem, Tryz.results117]
 refine za2 (by simp -implicitDefEqProofs only [go_sem]) ?_
 simp -implicitDefEqProofs only [go_sem]
 refine zco [] [4, 5] [] (HC) (by simp -implicitDefEqProofs only [go_sem]) (by simp -implicitDefEqProofs only [go_sem]) (by simp -implicitDefEqProofs only [go_sem]) (by simp -implicitDefEqProofs only [go_sem]) ?_
 simp -implicitDefEqProofs only [go_sem]
 refine qcp (HS) (by simp -implicitDefEqProofs only [go_sem, zb0]) (by simp -implicitDefEqProofs only [go_sem, zb0]) rfl ?_
 simp -implicitDefEqProofs only [go_sem, zb0]
def zh2 (b l : List Str) (s : Str) : List Str := if (!b.contains s) = true then zva l s else l
theorem zim (b : List Str) : ∀ (ss l : List Str), ss.foldl (zh2 b) l = zbm l (ss.filter fun s => !b.contains s)
 | [], l => rfl
 | s :: ss, l => by
  rw [List.foldl_cons, zim b ss, List.filter_cons]
  unfold zh2
  by_cases h : b.contains s = true
  ·rw [h]; simp
  ·have h : b.contains s = false := by simpa using h
   rw [h, if_pos (show (!false) = true from rfl), if_pos (show (!false) = true from rfl)]
   rfl
theorem qdj (b l : List Str) (s : Str) : (zh2 b l s).length <= l.length + 1 := by
 unfold zh2
 split
 ·exact ztf l s
 ·omega
theorem zl0 (b : List Str) : ∀ (ss l : List Str), (ss.foldl (zh2 b) l).length <= l.length + ss.length
 | [], l => by simp
 | s :: ss, l => by have := zl0 b ss (zh2 b l s); have := qdj b l s; simp only [List.foldl_cons, List.length_cons] at *; omega
theorem qau {b l : List Str} {s : Str} (h : (!b.contains s) = true) : zh2 b l s = zva l s := if_pos h
theorem qko {b l : List Str} {s : Str} (h : (!b.contains s) = false) : zh2 b l s = l := by unfold zh2; rw [h]; rfl
set_option maxHeartbeats 2000000 in
theorem qby (f : Fm) (hf : f.forms = true) (hw : f.wt <= 1048576) (H : ∀ x ∈ f.parts, ∀ ys b : List Str, ys.length + (vf x b).length <= 1073741824 -> b.length + x.nodes <= 1073741824 -> GC Tryz.prog 226 [(true, .one (zb9 ys)), (false, fmD x), (false, .one (zb9 b))] [.one (zb9 (zbm ys (vf x b)))])
  (ys b : List Str) (hs : ys.length + (vf f b).length <= 1073741824) (hb : b.length + f.nodes <= 1073741824) : GC Tryz.prog 226 [(true, .one (zb9 ys)), (false, fmD f), (false, .one (zb9 b))] [.one (zb9 (zbm ys (vf f b)))] := by
 have hv := qld f b
 have hN := f.nodes_eq
 have hW := f.wt_eq
 rw [Fm.forms_eq, Bool.and_eq_true] at hf
 simp only [fmD, zac]
 refine zk7 Tryz.call226 Tryz.func226 rfl (by kernel_rfl) (by simp only [List.length_cons, List.length_nil, Tryz.ntmps226]; omega) (by simp [zbo, T.isPin]) ?_
 simp -implicitDefEqProofs only [go_sem, Tryz.results226]
 by_cases h3 : f.op = 3
 ·obtain ⟨ha, hp⟩ := zjp hf.1 h3
  have e3 : (f.op == 3) = true := by simp [h3]
  have e8 : (f.op == 8) = false := by simp [h3]
  have e9 : (f.op == 9) = false := by simp [h3]
  rw [if_pos e3] at hv
  have hvl := zm6 f.atom
  have HV := zn3 f.atom (by omega) (by omega)
  have hPl := zda (voS f.atom) []
  generalize zbm [] (voS f.atom) = V at hv HV hPl
  simp only [List.length_nil] at hPl
  rw [hv, <- zim b V ys]
  simp only [tmD, zaa] at HV
  simp -implicitDefEqProofs only [go_sem, e3]
  refine zla (HV) (by simp -implicitDefEqProofs only [go_sem]) ?_
  simp -implicitDefEqProofs only [go_sem]
  refine zad (fun k : Nat => hd [(0, .one (.ow 0 0)), (2, .one (.rn (zb9 b))), (4, .one (.bx 4 0)), (7, .one (.rn (zb9 V))), (8, vI k)] [(4, [.t (.int .i64 f.op), .t (.str f.atom.name), .rn (tmS f.atom.args), .t (.str f.var), .rn (fmS f.parts)])] [(0, ⟨true, 1, ((V.take k).foldl (zh2 b) ys).map fun s => [.str s], 0, true⟩)]) (fun k => k <= V.length) (fun k => V.length - k) 0 (zab ?_) (Nat.zero_le _) ?_
  ·simp -implicitDefEqProofs only [go_sem]
   rfl
  ·intro k hk
   by_cases hlt : k < V.length
   ·have hL := zl0 b (V.take k) ys
    rw [List.length_take] at hL
    have hnx := zfr (zh2 b) V ys k hlt
    simp -implicitDefEqProofs only [go_sem, zai, hlt]
    refine callF (zt8 b V[k]) (by simp -implicitDefEqProofs only [go_sem]) ?_
    simp -implicitDefEqProofs only [go_sem]
    refine ⟨fun h => ?_, fun h => ?_⟩
    ·simp -implicitDefEqProofs only [go_sem, zai, hlt]
     refine zco [2, 4, 7, 8] [29, 33] [] (qbw ((V.take k).foldl (zh2 b) ys) V[k] (by omega)) (by simp -implicitDefEqProofs only [go_sem]) (by simp -implicitDefEqProofs only [go_sem]) (by simp -implicitDefEqProofs only [go_sem]) (by simp -implicitDefEqProofs only [go_sem]) ?_
     simp -implicitDefEqProofs only [go_sem]
     refine ⟨k + 1, hlt, by omega, zcr 0 1088 ?_⟩
     simp -implicitDefEqProofs only [go_sem]
     rw [zak (by omega), hnx, qau h]
     exact ⟨rfl, rfl⟩
    ·refine ⟨k + 1, hlt, by omega, zab ?_⟩
     simp -implicitDefEqProofs only [go_sem]
     rw [zak (by omega), hnx, qko h]
     exact ⟨rfl, rfl⟩
   ·rw [List.take_of_length_le (by omega)]
    have hr : ∃ R, V.foldl (zh2 b) ys = R := ⟨_, rfl⟩
    obtain ⟨R, hR⟩ := hr
    rw [hR]
    simp -implicitDefEqProofs only [go_sem, hlt, e8, e9]
    refine zad (fun k : Nat => hd [(0, .one (.ow 0 0)), (2, .one (.rn (zb9 b))), (4, .one (.bx 4 0)), (9, vI k)] [(4, [.t (.int .i64 f.op), .t (.str f.atom.name), .rn (tmS f.atom.args), .t (.str f.var), .rn (fmS f.parts)])] [(0, ⟨true, 1, R.map fun s => [.str s], 0, true⟩)]) (fun k => k = 0) (fun k => 0) 0 (zab ?_) rfl ?_
    ·simp -implicitDefEqProofs only [go_sem]
    ·rintro k rfl
     have hp0 : f.parts.length = 0 := by rw [hp]; rfl
     simp -implicitDefEqProofs only [go_sem, hp0]
 ·have e3 : (f.op == 3) = false := by simp [h3]
  rw [e3, if_neg (by simp)] at hv
  by_cases hq8 : isQ f.op = true
  ·rw [if_pos hq8] at hv
   rw [hv] at hs ⊢
   have hb1 : b.length <= 4294967296 := by omega
   have hb2 : b.length <= 4294967295 := by omega
   have key : (f.op == 8) = true \/ ((f.op == 8) = false /\ (f.op == 9) = true) := by
    unfold isQ at hq8
    cases h8 : f.op == 8
    ·rw [h8, Bool.false_or] at hq8; exact Or.inr ⟨rfl, hq8⟩
    ·exact Or.inl rfl
   rcases key with e8 | ⟨e8, e9⟩
   ·simp -implicitDefEqProofs only [go_sem, e3, e8]
    refine drawn (by kernel_rfl) ?_
    simp -implicitDefEqProofs only [go_sem]
    refine zbr (by simp -implicitDefEqProofs only [go_sem]) ?_
    simp -implicitDefEqProofs only [go_sem]
    refine zjo true (by simp -implicitDefEqProofs only [go_sem, hb1, zb0, ne_eq, List.length_map, Nat.zero_add]) ?_
    simp -implicitDefEqProofs only [go_sem, hb1, zb0, ne_eq, List.length_map, Nat.zero_add]
    refine zbr (by simp -implicitDefEqProofs only [go_sem]) ?_
    simp -implicitDefEqProofs only [go_sem]
    refine zjo true (by simp -implicitDefEqProofs only [go_sem, hb2, ne_eq, List.length_map]) ?_
    simp -implicitDefEqProofs only [go_sem, hb2, ne_eq, List.length_map]
    refine ⟨by kernel_rfl, ?_⟩
    refine zad (fun k : Nat => hd [(0, .one (.ow 0 0)), (2, .one (.rn (zb9 (b ++ [f.var])))), (4, .one (.bx 4 0)), (9, vI k)] [(4, [.t (.int .i64 f.op), .t (.str f.atom.name), .rn (tmS f.atom.args), .t (.str f.var), .rn (fmS f.parts)])] [(0, ⟨true, 1, (zbm ys ((f.parts.take k).map fun x => vf x ((b ++ [f.var]))).flatten).map fun s => [.str s], 0, true⟩)]) (fun k => k <= f.parts.length) (fun k => f.parts.length - k) 0 (zab ?_) (Nat.zero_le _) ?_
    ·simp -implicitDefEqProofs only [go_sem]
     exact ⟨by simp, rfl⟩
    ·intro k hk
     by_cases hlt : k < f.parts.length
     ·have hq := zby (fun x => vf x ((b ++ [f.var]))) f.parts k hlt
      have hL := zda ((f.parts.take k).map fun x => vf x ((b ++ [f.var]))).flatten ys
      have hnx := zbk Fm.nodes f.parts _ (List.getElem_mem hlt)
      have HC := H f.parts[k] (List.getElem_mem hlt) (zbm ys ((f.parts.take k).map fun x => vf x ((b ++ [f.var]))).flatten) ((b ++ [f.var])) (by omega) (by simp only [List.length_append, List.length_cons, List.length_nil]; omega)
      rw [<- zhj, <- zcu (fun x => vf x ((b ++ [f.var]))) f.parts k hlt] at HC
      simp only [fmD, zac f.parts[k]] at HC
      simp -implicitDefEqProofs only [go_sem, zai, hlt, zac f.parts[k]]
      refine zco [2, 4, 9] [57, 62, 63] [] (HC) (by simp -implicitDefEqProofs only [go_sem]) (by simp -implicitDefEqProofs only [go_sem]) (by simp -implicitDefEqProofs only [go_sem]) (by simp -implicitDefEqProofs only [go_sem]) ?_
      simp -implicitDefEqProofs only [go_sem]
      refine ⟨k + 1, hlt, by omega, zcr 0 2048 ?_⟩
      simp -implicitDefEqProofs only [go_sem]
      rw [zak (by omega)]
     ·simp -implicitDefEqProofs only [go_sem, hlt]
      exact Or.inl (by rw [List.take_of_length_le (by omega)])
   ·simp -implicitDefEqProofs only [go_sem, e3, e8, e9]
    refine drawn (by kernel_rfl) ?_
    simp -implicitDefEqProofs only [go_sem]
    refine zbr (by simp -implicitDefEqProofs only [go_sem]) ?_
    simp -implicitDefEqProofs only [go_sem]
    refine zjo true (by simp -implicitDefEqProofs only [go_sem, hb1, zb0, ne_eq, List.length_map, Nat.zero_add]) ?_
    simp -implicitDefEqProofs only [go_sem, hb1, zb0, ne_eq, List.length_map, Nat.zero_add]
    refine zbr (by simp -implicitDefEqProofs only [go_sem]) ?_
    simp -implicitDefEqProofs only [go_sem]
    refine zjo true (by simp -implicitDefEqProofs only [go_sem, hb2, ne_eq, List.length_map]) ?_
    simp -implicitDefEqProofs only [go_sem, hb2, ne_eq, List.length_map]
    refine ⟨by kernel_rfl, ?_⟩
    refine zad (fun k : Nat => hd [(0, .one (.ow 0 0)), (2, .one (.rn (zb9 (b ++ [f.var])))), (4, .one (.bx 4 0)), (9, vI k)] [(4, [.t (.int .i64 f.op), .t (.str f.atom.name), .rn (tmS f.atom.args), .t (.str f.var), .rn (fmS f.parts)])] [(0, ⟨true, 1, (zbm ys ((f.parts.take k).map fun x => vf x ((b ++ [f.var]))).flatten).map fun s => [.str s], 0, true⟩)]) (fun k => k <= f.parts.length) (fun k => f.parts.length - k) 0 (zab ?_) (Nat.zero_le _) ?_
    ·simp -implicitDefEqProofs only [go_sem]
     exact ⟨by simp, rfl⟩
    ·intro k hk
     by_cases hlt : k < f.parts.length
     ·have hq := zby (fun x => vf x ((b ++ [f.var]))) f.parts k hlt
      have hL := zda ((f.parts.take k).map fun x => vf x ((b ++ [f.var]))).flatten ys
      have hnx := zbk Fm.nodes f.parts _ (List.getElem_mem hlt)
      have HC := H f.parts[k] (List.getElem_mem hlt) (zbm ys ((f.parts.take k).map fun x => vf x ((b ++ [f.var]))).flatten) ((b ++ [f.var])) (by omega) (by simp only [List.length_append, List.length_cons, List.length_nil]; omega)
      rw [<- zhj, <- zcu (fun x => vf x ((b ++ [f.var]))) f.parts k hlt] at HC
      simp only [fmD, zac f.parts[k]] at HC
      simp -implicitDefEqProofs only [go_sem, zai, hlt, zac f.parts[k]]
      refine zco [2, 4, 9] [57, 62, 63] [] (HC) (by simp -implicitDefEqProofs only [go_sem]) (by simp -implicitDefEqProofs only [go_sem]) (by simp -implicitDefEqProofs only [go_sem]) (by simp -implicitDefEqProofs only [go_sem]) ?_
      simp -implicitDefEqProofs only [go_sem]
      refine ⟨k + 1, hlt, by omega, zcr 0 2048 ?_⟩
      simp -implicitDefEqProofs only [go_sem]
      rw [zak (by omega)]
     ·simp -implicitDefEqProofs only [go_sem, hlt]
      exact Or.inl (by rw [List.take_of_length_le (by omega)])
  ·have hq : isQ f.op = false := by simpa using hq8
   rw [hq, if_neg (by simp)] at hv
   rw [hv] at hs ⊢
   unfold isQ at hq
   rw [Bool.or_eq_false_iff] at hq
   obtain ⟨e8, e9⟩ := hq
   simp -implicitDefEqProofs only [go_sem, e3, e8, e9]
   refine zad (fun k : Nat => hd [(0, .one (.ow 0 0)), (2, .one (.rn (zb9 b))), (4, .one (.bx 4 0)), (9, vI k)] [(4, [.t (.int .i64 f.op), .t (.str f.atom.name), .rn (tmS f.atom.args), .t (.str f.var), .rn (fmS f.parts)])] [(0, ⟨true, 1, (zbm ys ((f.parts.take k).map fun x => vf x (b)).flatten).map fun s => [.str s], 0, true⟩)]) (fun k => k <= f.parts.length) (fun k => f.parts.length - k) 0 (zab ?_) (Nat.zero_le _) ?_
   ·simp -implicitDefEqProofs only [go_sem]
    rfl
   ·intro k hk
    by_cases hlt : k < f.parts.length
    ·have hq := zby (fun x => vf x (b)) f.parts k hlt
     have hL := zda ((f.parts.take k).map fun x => vf x (b)).flatten ys
     have hnx := zbk Fm.nodes f.parts _ (List.getElem_mem hlt)
     have HC := H f.parts[k] (List.getElem_mem hlt) (zbm ys ((f.parts.take k).map fun x => vf x (b)).flatten) (b) (by omega) (by omega)
     rw [<- zhj, <- zcu (fun x => vf x (b)) f.parts k hlt] at HC
     simp only [fmD, zac f.parts[k]] at HC
     simp -implicitDefEqProofs only [go_sem, zai, hlt, zac f.parts[k]]
     refine zco [2, 4, 9] [57, 62, 63] [] (HC) (by simp -implicitDefEqProofs only [go_sem]) (by simp -implicitDefEqProofs only [go_sem]) (by simp -implicitDefEqProofs only [go_sem]) (by simp -implicitDefEqProofs only [go_sem]) ?_
     simp -implicitDefEqProofs only [go_sem]
     refine ⟨k + 1, hlt, by omega, zcr 0 2048 ?_⟩
     simp -implicitDefEqProofs only [go_sem]
     rw [zak (by omega)]
    ·simp -implicitDefEqProofs only [go_sem, hlt]
     exact Or.inl (by rw [List.take_of_length_le (by omega)])
theorem qil : ∀ f : Fm, f.forms = true -> f.wt <= 1048576 -> ∀ ys b : List Str, ys.length + (vf f b).length <= 1073741824 -> b.length + f.nodes <= 1073741824 -> GC Tryz.prog 226 [(true, .one (zb9 ys)), (false, fmD f), (false, .one (zb9 b))] [.one (zb9 (zbm ys (vf f b)))] :=
 za7 fun o a v ps ih hf hw ys b hs hb => qby (.mk o a v ps) hf hw (fun x hx ys b hs hb => ih x hx (by rw [Fm.forms_eq, Bool.and_eq_true] at hf; exact List.all_eq_true.1 hf.2 x hx) (Nat.le_trans (zbx (a := .mk o a v ps) hx) hw) ys b hs hb) ys b hs hb
theorem zug (f : Fm) (hf : f.forms = true) (hw : f.wt <= 1048576) : FC Tryz.prog 159 [fmD f] [.one (zb9 (zbm [] (vf f [])))] := by
 have h1 := qiv f []
 have h2 := zcd f
 have HC := qil f hf hw [] [] (by simp only [List.length_nil]; omega) (by simp only [List.length_nil]; omega)
 simp only [fmD, zac] at HC ⊢
 refine zb8 Tryz.call159 Tryz.func159 rfl (by kernel_rfl) (zav (by kernel_rfl)) ?_
 simp -implicitDefEqProofs only [go_sem, Tryz.results159]
 refine za2 (by simp -implicitDefEqProofs only [go_sem]) ?_
 simp -implicitDefEqProofs only [go_sem]
 refine za2 (by simp -implicitDefEqProofs only [go_sem]) ?_
 simp -implicitDefEqProofs only [go_sem]
 refine frzO 160 rfl rfl ?_
 simp -implicitDefEqProofs only [go_sem]
 refine zco [] [3, 4, 5] [] (HC) (by simp -implicitDefEqProofs only [go_sem, zb9, List.map_nil]) (by simp -implicitDefEqProofs only [go_sem, zb9, List.map_nil]) (by simp -implicitDefEqProofs only [go_sem, zb9, List.map_nil]) (by simp -implicitDefEqProofs only [go_sem, zb9, List.map_nil]) ?_
 simp -implicitDefEqProofs only [go_sem, zb9, List.map_nil]
end Go.Proofs.YtemnhgmgeijkcaaGreat
namespace Go.Proofs.YtemnhgmgeijkcaaGreat
set_option linter.unusedSimpArgs false
set_option linter.unusedVariables false
set_option linter.unusedSectionVars false
set_option maxRecDepth 4000
open Go.RowKit
variable {P : Program}
inductive AF
 | d (b : Bool) (x : D)
 | p (j : Nat)
 | fn (g : FuncId) (js : List Nat)
def AF.ds : List AF -> List (Bool × D)
 | [] => []
 | .d b x :: l => (b, x) :: AF.ds l
 | .p _ :: l => AF.ds l
 | .fn _ _ :: l => AF.ds l
def qey (b : Nat) : Value := .pointer (some ⟨b, 0, none⟩)
def AF.vals (bs : Nat -> Nat) : List AF -> List Value -> List Value
 | [], _ => []
 | .d _ _ :: l, v :: vs => v :: AF.vals bs l vs
 | .d _ _ :: _, [] => []
 | .p j :: l, vs => qey (bs j) :: AF.vals bs l vs
 | .fn g js :: l, vs => .func (.func g) #[] ⟨js.map fun j => qey (bs j)⟩ :: AF.vals bs l vs
def AF.okJ (n : Nat) : List AF -> Bool
 | [] => true
 | .d _ _ :: l => AF.okJ n l
 | .p j :: l => decide (j < n) && AF.okJ n l
 | .fn _ js :: l => js.all (fun j => decide (j < n)) && AF.okJ n l
abbrev Bxs := List (List (Bool × T))
def zyd (w : World) (bs : Nat -> Nat) : Nat -> List (List Value) -> Bxs -> Prop
 | _, [], [] => True
 | j, vs :: bvs, b :: bx => vs.length = b.length /\ (∃ ty, w.heap[bs j]? = some (.cells ⟨vs⟩ ty (0, 0))) /\ zyd w bs (j + 1) bvs bx
 | _, _, _ => False
theorem zyd.lt {w : World} {bs : Nat -> Nat} : ∀ {j : Nat} {bvs : List (List Value)} {bx : Bxs}, zyd w bs j bvs bx -> ∀ i, i < bx.length -> bs (j + i) < w.heap.size
 | _, [], [], _, i, hi => by simp at hi
 | j, _ :: _, _ :: _, h, 0, hi => by obtain ⟨ty, h⟩ := h.2.1; exact (Array.getElem?_eq_some_iff.1 h).1
 | j, _ :: _, _ :: _, h, i + 1, hi => by rw [show j + (i + 1) = j + 1 + i by omega]; exact zyd.lt h.2.2 i (by simpa using hi)
 | _, [], _ :: _, h, _, _ => h.elim
 | _, _ :: _, [], h, _, _ => h.elim
def PC (P : Program) (f : FuncId) (bx : Bxs) (l : List AF) (bx' : Bxs) (res : List (Bool × D)) : Prop := zaz P f /\ bx'.length = bx.length /\ ∀ (w : World) (bs : Nat -> Nat) (bvs : List (List Value)) (dvs : List Value) (fp tp : List Nat) (A : Nat -> Prop),
 (∀ i j, i < bx.length -> j < bx.length -> bs i = bs j -> i = j) -> (∀ j, j < bx.length -> bs j ∉ fp) -> zyd w bs 0 bvs bx →
 zar w (fun k => (k < w.heap.size /\ k ∉ fp /\ ∀ j, j < bx.length -> k ≠ bs j) /\ A k) (AF.ds l ++ bxA bx.flatten) (dvs ++ bvs.flatten) fp tp -> fp.Nodup -> dvs.length = (AF.ds l).length →
 Calls P f ⟨AF.vals bs l dvs⟩ w fun e w' => ∃ us bvs' fp' tp', e = .returned (zbp us) /\ zyd w' bs 0 bvs' bx' /\ us.length = res.length ∧
  zar w' (fun k => (k < w'.heap.size /\ k ∉ fp' /\ ∀ j, j < bx.length -> k ≠ bs j) /\ (A k \/ w.heap.size <= k \/ k ∈ fp)) (res ++ bxA bx'.flatten) (us ++ bvs'.flatten) fp' tp' /\ fp'.Nodup /\ (∀ b ∈ fp', b ∈ fp \/ w.heap.size <= b) ∧
  Bk (fun k => k < w.heap.size /\ k ∉ fp /\ ∀ j, j < bx.length -> k ≠ bs j) w w'
def c1P (k : Nat) : Bool × T -> C
 | (true, t) => owC k 0 t
 | (false, t) => t.toN
def zu8 : Nat -> List (Bool × T) -> List C
 | _, [] => []
 | k, p :: ps => c1P k p :: zu8 (k + 1) ps
def zjl : Nat -> Nat -> Bxs -> Nat -> Option (List C)
 | _, _, [] => fun _ => none
 | j, k, b :: bs => upd (zjl (j + 1) (k + b.length) bs) (1000000 + j) (some (zu8 k b))
def zc3 : Nat -> Nat -> List AF -> Nat -> V
 | _, _, [] => fun _ => .one .any
 | i, k, .d b x :: l => upd (zc3 (i + 1) (k + 1) l) i (gVN k (b, x))
 | i, k, .p j :: l => upd (zc3 (i + 1) k l) i (.one (.bx (1000000 + j) 0))
 | i, k, .fn g js :: l => upd (zc3 (i + 1) k l) i (.one (.fn g (js.map (1000000 + ·))))
def zh6 : Nat -> Bxs -> (Nat -> V) -> Nat -> V
 | _, [], f => f
 | j, _ :: bs, f => upd (zh6 (j + 1) bs f) (1000000 + j) (.one (.bx (1000000 + j) 0))
def zit (l : List AF) (bx : Bxs) : St := ⟨zh6 0 bx (zc3 0 0 l), zjl 0 (AF.ds l).length bx, zgh 0 (AF.ds l ++ bxA bx.flatten)⟩
theorem qma (k : Nat) (p : Bool × T) : gVN k (p.1, .one p.2) = .one (c1P k p) := by obtain ⟨b, t⟩ := p; cases b <;> rfl
theorem zoe : ∀ (bx : Bxs) (j : Nat) (f : Nat -> V) (i : Nat), ((∃ q, q < bx.length /\ i = 1000000 + (j + q)) /\ zh6 j bx f i = .one (.bx i 0)) \/ ((∀ q, q < bx.length -> i ≠ 1000000 + (j + q)) /\ zh6 j bx f i = f i)
 | [], j, f, i => Or.inr ⟨fun q hq => by simp at hq, rfl⟩
 | b :: bx, j, f, i => by
  by_cases hi : i = 1000000 + j
  ·subst hi
   exact Or.inl ⟨⟨0, by simp, rfl⟩, by unfold zh6; rw [zah]⟩
  ·unfold zh6
   rw [zam _ _ hi]
   rcases zoe bx (j + 1) f i with ⟨⟨q, h1, h2⟩, h3⟩ | ⟨h1, h2⟩
   ·exact Or.inl ⟨⟨q + 1, by simp; omega, by omega⟩, h3⟩
   ·refine Or.inr ⟨fun q hq => ?_, h2⟩
    cases q with
    | zero => exact hi
    | succ q => have := h1 q (by simpa using hq); omega
theorem zpo : ∀ (bx : Bxs) (j k b : Nat), zjl j k bx b ≠ none ↔ ∃ q, q < bx.length /\ b = 1000000 + (j + q)
 | [], j, k, b => ⟨fun h => absurd rfl h, fun ⟨q, hq, _⟩ => by simp at hq⟩
 | c :: bx, j, k, b => by
  unfold zjl
  by_cases hi : b = 1000000 + j
  ·subst hi; rw [zah]; exact ⟨fun _ => ⟨0, by simp, rfl⟩, fun _ => by simp⟩
  ·rw [zam _ _ hi, zpo bx (j + 1) _ b]
   refine ⟨fun ⟨q, h1, h2⟩ => ⟨q + 1, by simp; omega, by omega⟩, fun ⟨q, h1, h2⟩ => ?_⟩
   cases q with
   | zero => exact absurd h2 hi
   | succ q => exact ⟨q, by simpa using h1, by omega⟩
theorem zlh {σ : St} {g : Gh} {w : World} : ∀ {b : List (Bool × T)} {vs : List Value} {k : Nat}, vs.length = b.length -> (∀ i p v, b[i]? = some p -> vs[i]? = some v -> CR σ g w (c1P (k + i) p) v) -> CRs σ g w (zu8 k b) vs
 | [], vs, _, hl, _ => List.length_eq_zero_iff.1 hl
 | p :: b, [], _, hl, _ => by simp at hl
 | p :: b, v :: vs, k, hl, h => ⟨v, vs, rfl, by simpa using h 0 p v rfl rfl, zlh (by simpa using hl) fun i q u h1 h2 => by
   have := h (i + 1) q u (by simpa using h1) (by simpa using h2)
   rw [show k + (i + 1) = k + 1 + i by omega] at this
   exact this⟩
theorem zpe {σ : St} {g : Gh} {w : World} {bs : Nat -> Nat} : ∀ (bx : Bxs) (bvs : List (List Value)) (j k : Nat), zyd w bs j bvs bx -> (∀ i p v, bx.flatten[i]? = some p -> bvs.flatten[i]? = some v -> CR σ g w (c1P (k + i) p) v) →
  ∀ b cs, zjl j k bx b = some cs -> ∃ q vs ty, q < bx.length /\ b = 1000000 + (j + q) /\ w.heap[bs (j + q)]? = some (.cells ⟨vs⟩ ty (0, 0)) /\ CRs σ g w cs vs
 | [], _, _, _, _, _, b, cs, h => by cases h
 | c :: bx, [], _, _, h0, _, _, _, _ => h0.elim
 | c :: bx, vs :: bvs, j, k, h0, hc, b, cs, h => by
  obtain ⟨h1, ⟨ty, h2⟩, h3⟩ := h0
  unfold zjl at h
  by_cases hi : b = 1000000 + j
  ·subst hi
   rw [zah] at h
   cases h
   refine ⟨0, vs, ty, by simp, rfl, h2, zlh h1 fun i p v e1 e2 => hc i p v ?_ ?_⟩
   ·rw [List.flatten_cons, List.getElem?_append_left (List.getElem?_eq_some_iff.1 e1).1]; exact e1
   ·rw [List.flatten_cons, List.getElem?_append_left (List.getElem?_eq_some_iff.1 e2).1]; exact e2
  ·rw [zam _ _ hi] at h
   obtain ⟨q, vs', ty', k1, k2, k3, k4⟩ := zpe bx bvs (j + 1) (k + c.length) h3 (fun i p v e1 e2 => by
    have := hc (c.length + i) p v (by rw [List.flatten_cons, List.getElem?_append_right (by omega), show c.length + i - c.length = i by omega]; exact e1) (by rw [List.flatten_cons, List.getElem?_append_right (by omega), show c.length + i - vs.length = i by omega]; exact e2)
    rw [show k + (c.length + i) = k + c.length + i by omega] at this
    exact this) b cs h
   exact ⟨q + 1, vs', ty', by simp; omega, by omega, by rw [show j + (q + 1) = j + 1 + q by omega]; exact k3, k4⟩
theorem zf3 : ∀ (l : List AF) (i0 k i : Nat), l.length <= i -> zc3 i0 k l (i0 + i) = .one .any
 | [], _, _, _, _ => rfl
 | a :: l, i0, k, 0, h => by simp at h
 | .d b x :: l, i0, k, i + 1, h => by unfold zc3; rw [zam _ _ (by omega), show i0 + (i + 1) = i0 + 1 + i by omega]; exact zf3 l _ _ i (by simpa using h)
 | .p j :: l, i0, k, i + 1, h => by unfold zc3; rw [zam _ _ (by omega), show i0 + (i + 1) = i0 + 1 + i by omega]; exact zf3 l _ _ i (by simpa using h)
 | .fn g js :: l, i0, k, i + 1, h => by unfold zc3; rw [zam _ _ (by omega), show i0 + (i + 1) = i0 + 1 + i by omega]; exact zf3 l _ _ i (by simpa using h)
theorem zgs {σ : St} {g : Gh} {w : World} {bs : Nat -> Nat} {n : Nat} (hb : ∀ j, j < n -> σ.bx (1000000 + j) ≠ none /\ g.β (1000000 + j) = bs j) : ∀ (l : List AF) (i0 k : Nat) (dvs : List Value), AF.okJ n l = true -> dvs.length = (AF.ds l).length -> (∀ i d v, (AF.ds l)[i]? = some d -> dvs[i]? = some v -> VR σ g w (gVN (k + i) d) v) →
  ∀ i, i < l.length -> ∃ v, (AF.vals bs l dvs)[i]? = some v /\ VR σ g w (zc3 i0 k l (i0 + i)) v
 | [], _, _, _, _, _, _, i, hi => by simp at hi
 | .d b x :: l, i0, k, [], _, hl, _, i, hi => by simp [AF.ds] at hl
 | .d b x :: l, i0, k, v :: dvs, ho, hl, h, i, hi => by
  cases i with
  | zero => exact ⟨v, rfl, by unfold zc3; show VR σ g w (upd _ i0 _ i0) v; rw [zah]; simpa using h 0 (b, x) v rfl rfl⟩
  | succ i =>
   obtain ⟨u, k1, k2⟩ := zgs hb l (i0 + 1) (k + 1) dvs ho (by simpa [AF.ds] using hl) (fun i d v h1 h2 => by
    have := h (i + 1) d v (by simpa [AF.ds] using h1) (by simpa using h2)
    rw [show k + (i + 1) = k + 1 + i by omega] at this
    exact this) i (by simpa using hi)
   exact ⟨u, by unfold AF.vals; simpa using k1, by unfold zc3; rw [zam _ _ (by omega), show i0 + (i + 1) = i0 + 1 + i by omega]; exact k2⟩
 | .p j :: l, i0, k, dvs, ho, hl, h, i, hi => by
  unfold AF.okJ at ho
  rw [Bool.and_eq_true, decide_eq_true_eq] at ho
  cases i with
  | zero => exact ⟨_, rfl, by unfold zc3; show VR σ g w (upd _ i0 _ i0) _; rw [zah]; exact ⟨by rw [(hb j ho.1).2]; rfl, (hb j ho.1).1⟩⟩
  | succ i =>
   obtain ⟨u, k1, k2⟩ := zgs hb l (i0 + 1) k dvs ho.2 hl h i (by simpa using hi)
   exact ⟨u, by unfold AF.vals; simpa using k1, by unfold zc3; rw [zam _ _ (by omega), show i0 + (i + 1) = i0 + 1 + i by omega]; exact k2⟩
 | .fn f js :: l, i0, k, dvs, ho, hl, h, i, hi => by
  unfold AF.okJ at ho
  rw [Bool.and_eq_true, List.all_eq_true] at ho
  cases i with
  | zero =>
   refine ⟨_, rfl, ?_⟩
   unfold zc3
   show VR σ g w (upd _ i0 _ i0) _
   rw [zah]
   refine ⟨?_, fun b hb' => ?_⟩
   ·rw [List.map_map]
    congr 2
    refine List.map_congr_left fun j hj => ?_
    show qey (bs j) = .pointer (some ⟨g.β (1000000 + j), 0, none⟩)
    rw [(hb j (by simpa using ho.1 j hj)).2]
    rfl
   ·obtain ⟨j, hj, rfl⟩ := List.mem_map.1 hb'
    exact (hb j (by simpa using ho.1 j hj)).1
  | succ i =>
   obtain ⟨u, k1, k2⟩ := zgs hb l (i0 + 1) k dvs ho.2 hl h i (by simpa using hi)
   exact ⟨u, by unfold AF.vals; simpa using k1, by unfold zc3; rw [zam _ _ (by omega), show i0 + (i + 1) = i0 + 1 + i by omega]; exact k2⟩
theorem AF.vals_len (bs : Nat -> Nat) : ∀ (l : List AF) (dvs : List Value), dvs.length = (AF.ds l).length -> (AF.vals bs l dvs).length = l.length
 | [], _, _ => rfl
 | .d _ _ :: l, [], h => by simp [AF.ds] at h
 | .d _ _ :: l, v :: vs, h => by simp [AF.vals, AF.vals_len bs l vs (by simpa [AF.ds] using h)]
 | .p _ :: l, vs, h => by simp [AF.vals, AF.vals_len bs l vs h]
 | .fn _ _ :: l, vs, h => by simp [AF.vals, AF.vals_len bs l vs h]
def T.fs : T -> Bool
 | .sl _ _ => true
 | t => t.flat
def gFS : List (Bool × D) -> Bool
 | [] => true
 | (false, _) :: ds => gFS ds
 | (true, .one t) :: ds => t.fs && gFS ds
 | (true, .agg ts) :: ds => ts.all T.fs && gFS ds
theorem ztu : ∀ {ds : List (Bool × D)}, gFS ds = true -> ∀ (i : Nat) d, ds[i]? = some (true, d) -> match d with | .one t => t.fs = true | .agg ts => ts.all T.fs = true
 | [], _, i, d, h => by simp at h
 | (false, x) :: ds, hg, 0, d, h => by simp at h
 | (false, x) :: ds, hg, i + 1, d, h => ztu (ds := ds) hg i d (by simpa using h)
 | (true, .one t) :: ds, hg, 0, d, h => by
  simp only [List.getElem?_cons_zero, Option.some.injEq, Prod.mk.injEq, true_and] at h
  subst h
  exact ((Bool.and_eq_true _ _).mp hg).1
 | (true, .agg t) :: ds, hg, 0, d, h => by
  simp only [List.getElem?_cons_zero, Option.some.injEq, Prod.mk.injEq, true_and] at h
  subst h
  exact ((Bool.and_eq_true _ _).mp hg).1
 | (true, .one t) :: ds, hg, i + 1, d, h => ztu (ds := ds) ((Bool.and_eq_true _ _).mp hg).2 i d (by simpa using h)
 | (true, .agg t) :: ds, hg, i + 1, d, h => ztu (ds := ds) ((Bool.and_eq_true _ _).mp hg).2 i d (by simpa using h)
theorem zv5 {σ σ' : St} {g g' : Gh} {w : World} (he : σ'.ev = σ.ev) (hψ : g'.ψ = g.ψ) {k j : Nat} {t : T} {v : Value} (ht : t.fs = true) (h : CR σ g w (owC k j t) v) : CR σ' g' w (owC k j t) v := by
 cases t
 case sl => exact ⟨by rw [hψ]; exact h.1, by obtain ⟨x, h1, h2⟩ := h.2; exact ⟨x, by rw [he]; exact h1, h2⟩⟩
 all_goals exact zds (A := Fix σ g w) (w := w) ht h
theorem zpa {σ σ' : St} {g g' : Gh} {w : World} (he : σ'.ev = σ.ev) (hψ : g'.ψ = g.ψ) {k : Nat} : ∀ {ts : List T} {j : Nat} {vs : List Value}, ts.all T.fs = true -> CRs σ g w (znn k j ts) vs -> CRs σ' g' w (znn k j ts) vs
 | [], _, _, _, h => h
 | t :: ts, j, vs, ht, h => by
  rw [List.all_cons, Bool.and_eq_true] at ht
  obtain ⟨v, vs', rfl, h1, h2⟩ := h
  exact ⟨v, vs', rfl, zv5 he hψ ht.1 h1, zpa he hψ ht.2 h2⟩
theorem zn0 (d : Nat) : ∀ (ts : List T) (j : Nat) (f : Nat -> Option Ev), (∀ e x, f e = some x -> x.deep = true /\ x.on = true) -> ∀ e x, owE d j ts f e = some x -> x.deep = true /\ x.on = true
 | [], _, f, h, e, x, hx => h e x hx
 | t :: ts, j, f, h, e, x, hx => zn0 d ts (j + 1) _ (fun e x hx => by
   cases t <;> first | exact h e x hx | skip
   rename_i sz rows
   by_cases he : e = d * 32 + j
   ·subst he; simp only [zrg, zah, Option.some.injEq] at hx; subst hx; exact ⟨rfl, rfl⟩
   ·simp only [zrg, zam _ _ he] at hx; exact h e x hx) e x hx
theorem zf1 : ∀ (ds : List (Bool × D)) (k e : Nat) (x : Ev), zgh k ds e = some x -> x.deep = true /\ x.on = true
 | [], _, _, _, h => by cases h
 | (false, _) :: ds, k, e, x, h => zf1 ds (k + 1) e x h
 | (true, .one t) :: ds, k, e, x, h => zn0 k [t] 0 _ (fun e x hx => zf1 ds (k + 1) e x hx) e x h
 | (true, .agg ts) :: ds, k, e, x, h => zn0 k ts 0 _ (fun e x hx => zf1 ds (k + 1) e x hx) e x h
theorem qax {w : World} {l : List AF} {bx : Bxs} {bs : Nat -> Nat} {bvs : List (List Value)} {dvs : List Value} {fp tp : List Nat} {A : Nat -> Prop} {N : Nat} (hinj : ∀ i j, i < bx.length -> j < bx.length -> bs i = bs j -> i = j) (hbf : ∀ j, j < bx.length -> bs j ∉ fp) (hbx : zyd w bs 0 bvs bx)
  (hv : zar w (fun k => (k < w.heap.size /\ k ∉ fp /\ ∀ j, j < bx.length -> k ≠ bs j) /\ A k) (AF.ds l ++ bxA bx.flatten) (dvs ++ bvs.flatten) fp tp) (hn : fp.Nodup) (hl : dvs.length = (AF.ds l).length) (hj : AF.okJ bx.length l = true) (hN : l.length <= N) (hN2 : N <= 1000000) (hs : zbo (AF.ds l ++ bxA bx.flatten)) (hfs : gFS (AF.ds l ++ bxA bx.flatten) = true)
  {ξ : Nat -> Value} (h1 : ∀ i, i < 1000000 -> ξ i = undef) (h2 : ∀ i b, ξ i ≠ .bool b) (h3 : ∀ j, j < bx.length -> ξ (1000000 + j) = qey (bs j)) :
  ∃ g, (g.A0, g.R0) = (fun b => A b \/ w.heap.size <= b \/ b ∈ fp \/ ∃ j, j < bx.length /\ b = bs j, ⟨fun b => b ∈ fp \/ w.heap.size <= b \/ ∃ j, j < bx.length /\ b = bs j, ξ, h1, h2⟩) ∧
   Rel (fun b => b < w.heap.size /\ b ∉ fp /\ ∀ j, j < bx.length -> b ≠ bs j) N (zit l bx) g { tmps := (⟨AF.vals bs l dvs⟩ : Array Value) ++ Array.replicate (N - (AF.vals bs l dvs).length) undef, defers := [] } w := by
 have hv' : zar w (fun b => b < w.heap.size /\ (A b /\ ∀ j, j < bx.length -> b ≠ bs j) /\ b ∉ fp) (AF.ds l ++ bxA bx.flatten) (dvs ++ bvs.flatten) fp tp := zar.keepA (fun b hb => ⟨hb.1.1, ⟨hb.2, hb.1.2.2⟩, hb.1.2.1⟩) hv
 obtain ⟨g, hg, hR⟩ := Rel.start (N := (AF.ds l ++ bxA bx.flatten).length) (A0 := fun b => A b \/ w.heap.size <= b \/ b ∈ fp \/ ∃ j, j < bx.length /\ b = bs j) (R0 := ⟨fun b => b ∈ fp \/ w.heap.size <= b \/ ∃ j, j < bx.length /\ b = bs j, ξ, h1, h2⟩) hv' hn hs (Nat.le_refl _) (fun b hb => Or.inl hb.1) (fun b hb => ⟨Or.inr (Or.inr (Or.inl hb)), Or.inl hb⟩) (fun b hb => by
  by_cases hlt : b < w.heap.size
  ·have hm : b ∈ fp := Classical.byContradiction fun h => hb ⟨hlt, h⟩
   exact ⟨Or.inr (Or.inr (Or.inl hm)), Or.inl hm⟩
  ·exact ⟨Or.inr (Or.inl (by omega)), Or.inr (Or.inl (by omega))⟩)
 have hg1 : g.A0 = _ := (Prod.mk.inj hg).1
 have hg2 : g.R0 = _ := (Prod.mk.inj hg).2
 refine ⟨{ g with β := fun k => bs (k - 1000000) }, hg, ?_⟩
 have hlen : (dvs ++ bvs.flatten).length = (AF.ds l ++ bxA bx.flatten).length := zar.len hv
 have hbne : ∀ b, (zit l bx).bx b ≠ none ↔ ∃ q, q < bx.length /\ b = 1000000 + q := fun b => by
  have := zpo bx 0 (AF.ds l).length b
  simp only [Nat.zero_add] at this
  exact this
 have hblt : ∀ q, q < bx.length -> bs q < w.heap.size := fun q hq => by have := hbx.lt q hq; rwa [Nat.zero_add] at this
 have hdeep : ∀ e x, (zit l bx).ev e = some x -> x.deep = true /\ x.on = true := fun e x hx => zf1 _ _ e x hx
 have hφ : ∀ e, (zit l bx).On e -> ∀ b ∈ g.φ e, ¬ (b < w.heap.size /\ b ∉ fp) := fun e he b hb => hR.etop e he b hb
 have hfree : ∀ b, ((b < w.heap.size /\ b ∉ fp /\ ∀ j, j < bx.length -> b ≠ bs j) /\ A b) -> zca (zit l bx) { g with β := fun k => bs (k - 1000000) } w b := fun b hb => by
  refine ⟨⟨fun k hk => ?_, fun e x hx ho hh => hφ e ⟨x, hx, ho⟩ b (List.mem_of_mem_head? hh) ⟨hb.1.1, hb.1.2.1⟩, hb.1.1, ?_⟩, fun e he hm => hφ e he b hm ⟨hb.1.1, hb.1.2.1⟩⟩
  ·obtain ⟨q, hq, rfl⟩ := (hbne k).1 hk
   show bs (1000000 + q - 1000000) ≠ b
   rw [show 1000000 + q - 1000000 = q by omega]
   exact fun e => hb.1.2.2 q hq e.symm
  ·show g.A0 b
   rw [hg1]
   exact Or.inl hb.2
 have hat : ∀ (i : Nat) d v, (AF.ds l ++ bxA bx.flatten)[i]? = some d -> (dvs ++ bvs.flatten)[i]? = some v -> VR (zit l bx) { g with β := fun k => bs (k - 1000000) } w (gVN i d) v := fun i d v hd hv1 => by
  obtain ⟨b, d⟩ := d
  cases b with
  | false =>
   obtain ⟨u, e1, e2⟩ := zar.atR hv i d hd
   rw [e1] at hv1
   cases hv1
   exact zpv hfree e2
  | true =>
   have h0 := hR.slots i
   have hj0 := zg3 (AF.ds l ++ bxA bx.flatten) 0 i
   rw [Nat.zero_add, hd] at hj0
   have h0' : VR (zdc (AF.ds l ++ bxA bx.flatten)) g w (zgj 0 (AF.ds l ++ bxA bx.flatten) i) _ := h0
   rw [hj0] at h0'
   have hlt : i < (dvs ++ bvs.flatten).length := (List.getElem?_eq_some_iff.1 hv1).1
   have e : ((⟨dvs ++ bvs.flatten⟩ : Array Value) ++ Array.replicate ((AF.ds l ++ bxA bx.flatten).length - (dvs ++ bvs.flatten).length) undef).getD i (g.R0.ξ i) = v := by
    rw [Array.getD_eq_getD_getElem?, Array.getElem?_append_left (by simpa using hlt)]
    simp only [List.getElem?_toArray, hv1, Option.getD_some]
   rw [e] at h0'
   have hf := ztu hfs i d hd
   cases d with
   | one t => exact zv5 (σ := zdc (AF.ds l ++ bxA bx.flatten)) (σ' := zit l bx) (g := g) (g' := { g with β := fun k => bs (k - 1000000) }) rfl rfl hf h0'
   | agg ts => obtain ⟨a, e1, e2⟩ := h0'; exact ⟨a, e1, zpa (σ := zdc (AF.ds l ++ bxA bx.flatten)) (σ' := zit l bx) (g := g) (g' := { g with β := fun k => bs (k - 1000000) }) rfl rfl hf e2⟩
 have hvl := AF.vals_len bs l dvs hl
 refine ⟨rfl, by simp; omega, fun b hb => ?_, fun i => ?_, fun b cs hb => ?_, fun b hb => ?_, fun b b' hb hb' he => ?_, fun e x he ho => ?_, fun e x he ho => ?_, hR.slc, fun e he b hb => ?_, fun e he b hb => ?_, fun e he => hR.nodup e he, fun e e' h1 h2 hne => hR.apart e e' h1 h2 hne, fun e k he hk hm => ?_⟩
 ·show g.A0 b /\ g.R0 b
  rw [hg1, hg2]
  show (A b \/ _) /\ (b ∈ fp \/ _)
  by_cases hlt : b < w.heap.size
  ·by_cases hm : b ∈ fp
   ·exact ⟨Or.inr (Or.inr (Or.inl hm)), Or.inl hm⟩
   ·have : ∃ j, j < bx.length /\ b = bs j := Classical.byContradiction fun hh => hb ⟨hlt, hm, fun j hj e => hh ⟨j, hj, e⟩⟩
    exact ⟨Or.inr (Or.inr (Or.inr this)), Or.inr (Or.inr this)⟩
  ·exact ⟨Or.inr (Or.inl (by omega)), Or.inr (Or.inl (by omega))⟩
 ·show VR _ _ _ (zh6 0 bx (zc3 0 0 l) i) _
  rcases zoe bx 0 (zc3 0 0 l) i with ⟨⟨q, h4, rfl⟩, h5⟩ | ⟨_, h5⟩
  ·rw [h5, Nat.zero_add, Array.getD_eq_getD_getElem?, Array.getElem?_eq_none (by simp; omega)]
   refine ⟨?_, (hbne _).2 ⟨q, h4, rfl⟩⟩
   show (none : Option Value).getD (g.R0.ξ (1000000 + q)) = .pointer (some ⟨bs (1000000 + q - 1000000), 0, none⟩)
   rw [hg2, show 1000000 + q - 1000000 = q by omega]
   exact h3 q h4
  ·rw [h5]
   by_cases hi : i < l.length
   ·obtain ⟨u, e1, e2⟩ := zgs (σ := zit l bx) (g := { g with β := fun k => bs (k - 1000000) }) (w := w) (bs := bs) (n := bx.length) (fun j hj => ⟨(hbne _).2 ⟨j, hj, rfl⟩, by show bs (1000000 + j - 1000000) = bs j; rw [show 1000000 + j - 1000000 = j by omega]⟩) l 0 0 dvs hj hl (fun i d v e1 e2 => by
     rw [Nat.zero_add]
     exact hat i d v (by rw [List.getElem?_append_left (List.getElem?_eq_some_iff.1 e1).1]; exact e1) (by rw [List.getElem?_append_left (List.getElem?_eq_some_iff.1 e2).1]; exact e2)) i hi
    rw [Nat.zero_add] at e2
    rw [Array.getD_eq_getD_getElem?, Array.getElem?_append_left (by simp; omega)]
    simp only [List.getElem?_toArray, e1, Option.getD_some]
    exact e2
   ·have := zf3 l 0 0 i (by omega)
    rw [Nat.zero_add] at this
    rw [this]
    trivial
 ·obtain ⟨q, vs, ty, k1, k2, k3, k4⟩ := zpe (σ := zit l bx) (g := { g with β := fun k => bs (k - 1000000) }) bx bvs 0 (AF.ds l).length hbx (fun i p v e1 e2 => by
   have := hat ((AF.ds l).length + i) (p.1, .one p.2) v (by rw [List.getElem?_append_right (by omega), show (AF.ds l).length + i - (AF.ds l).length = i by omega]; unfold bxA; rw [List.getElem?_map, e1]; rfl) (by rw [List.getElem?_append_right (by omega), show (AF.ds l).length + i - dvs.length = i by omega]; exact e2)
   rw [qma] at this
   exact this) b cs hb
  rw [Nat.zero_add] at k2 k3
  subst k2
  exact ⟨⟨vs⟩, ty, by show w.heap[bs (1000000 + q - 1000000)]? = _; rw [show 1000000 + q - 1000000 = q by omega]; exact k3, k4⟩
 ·obtain ⟨q, hq, rfl⟩ := (hbne b).1 hb
  intro h
  have h := h.2.2 q hq
  exact h (show bs (1000000 + q - 1000000) = bs q by rw [show 1000000 + q - 1000000 = q by omega])
 ·obtain ⟨q, hq, rfl⟩ := (hbne b).1 hb
  obtain ⟨q', hq', rfl⟩ := (hbne b').1 hb'
  have he : bs (1000000 + q - 1000000) = bs (1000000 + q' - 1000000) := he
  rw [show 1000000 + q - 1000000 = q by omega, show 1000000 + q' - 1000000 = q' by omega] at he
  rw [hinj q q' hq hq' he]
 ·obtain ⟨ao, cap, e1, e2, e3, e4⟩ := hR.evs e x he ho
  refine ⟨ao, cap, e1, e2, e3, ?_⟩
  rcases e4 with e4 | ⟨b, cells, ty, fps, j1, j2, j3, j4, j5⟩
  ·exact Or.inl e4
  ·rw [if_pos (hdeep e x he).1] at j5
   exact Or.inr ⟨b, cells, ty, fps, j1, j2, j3, j4, by rw [if_pos (hdeep e x he).1]; exact j5⟩
 ·rw [(hdeep e x he).2] at ho; cases ho
 ·exact hR.ebase e he b hb
 ·exact fun h => hφ e he b hb ⟨h.1, h.2.1⟩
 ·obtain ⟨q, hq, rfl⟩ := (hbne k).1 hk
  have hm : bs (1000000 + q - 1000000) ∈ g.φ e := hm
  rw [show 1000000 + q - 1000000 = q by omega] at hm
  exact hφ e he _ hm ⟨hblt q hq, hbf q hq⟩
def bxE (σ : St) : Nat -> Bxs -> (List V -> Prop) -> Prop
 | _, [], K => K []
 | j, b :: bs, K => σ.sl (1000000 + j) = .one (.bx (1000000 + j) 0) /\ zaq (σ.bx (1000000 + j)) fun cs => cs.length = b.length /\ bxE σ (j + 1) bs fun vs => K (cs.map .one ++ vs)
theorem CRs.ones {σ : St} {g : Gh} {w : World} : ∀ {cs : List C} {vs : List Value}, CRs σ g w cs vs -> VRl σ g w (cs.map .one) vs
 | [], _, h => h
 | c :: cs, _, h => by obtain ⟨v, vs', rfl, h1, h2⟩ := h; exact ⟨v, vs', rfl, h1, CRs.ones h2⟩
theorem zpf {n0 : Nat -> Prop} {N : Nat} {σ : St} {g : Gh} {a : Act} {w : World} {bs : Nat -> Nat} (hR : Rel n0 N σ g a w) (hN : N <= 1000000) : ∀ {bx : Bxs} {j : Nat} {K : List V -> Prop}, (∀ q, q < bx.length -> g.R0.ξ (1000000 + (j + q)) = qey (bs (j + q))) -> bxE σ j bx K →
  ∃ vs bvs, K vs /\ zyd w bs j bvs bx /\ VRl σ g w vs bvs.flatten /\ ∀ q, q < bx.length -> σ.bx (1000000 + (j + q)) ≠ none /\ g.β (1000000 + (j + q)) = bs (j + q)
 | [], j, K, _, h => ⟨[], [], h, trivial, rfl, fun q hq => by simp at hq⟩
 | b :: bx, j, K, hξ, h => by
  obtain ⟨h1, h2⟩ := h
  obtain ⟨cs, h3, h4, h5⟩ := zan h2
  obtain ⟨vs, bvs, k1, k2, k3, k4⟩ := zpf hR hN (bx := bx) (j := j + 1) (fun q hq => by have := hξ (q + 1) (by simpa using hq); rw [show j + (q + 1) = j + 1 + q by omega] at this; exact this) h5
  have h0 := hR.slots (1000000 + j)
  rw [h1, Array.getD_eq_getD_getElem?, Array.getElem?_eq_none (by rw [hR.size]; omega)] at h0
  have hx := hξ 0 (by simp)
  rw [Nat.add_zero] at hx
  have h0 : CR σ g w (.bx (1000000 + j) 0) (g.R0.ξ (1000000 + j)) := h0
  rw [hx] at h0
  have hβ : g.β (1000000 + j) = bs j := by
   have := h0.1
   unfold qey at this
   simp only [Value.pointer.injEq, Option.some.injEq] at this
   injection this with e
   exact e.symm
  obtain ⟨us, ty, j1, j2⟩ := hR.boxes _ cs h3
  rw [hβ] at j1
  refine ⟨_, us.toList :: bvs, k1, ⟨by rw [j2.len, h4], ⟨ty, j1⟩, k2⟩, VRl.append j2.ones k3, fun q hq => ?_⟩
  cases q with
  | zero => exact ⟨h0.2, hβ⟩
  | succ q => rw [show j + (q + 1) = j + 1 + q by omega]; exact k4 q (by simpa using hq)
def PB0 (P : Program) (rs : List ResultVar) (res : List (Bool × D)) (bx : Bxs) (pl : List (Nat × Nat × Nat)) (σ : St) : Prop := zaq (zbg P σ rs) fun vs => bxE σ 0 bx fun cs => gvA σ (fun _ => True) [] pl (vs ++ cs) (res ++ bxA bx.flatten)
def PB (P : Program) (rs : List ResultVar) (res : List (Bool × D)) (bx : Bxs) (e : Exit) (σ : St) : Prop := match e with
 | .normal => PB0 P rs res bx [] σ \/ ∃ pl, PB0 P rs res bx pl σ
 | .ret => PB0 P rs res bx [] σ \/ ∃ pl, PB0 P rs res bx pl σ
 | _ => False
theorem zjc {σ : St} : ∀ {rs : List ResultVar} {vs : List V}, zbg P σ rs = some vs -> vs.length = rs.length
 | [], vs, h => by cases h; rfl
 | r :: rs, vs, h => by
  unfold zbg at h
  cases h1 : zws P σ r with
  | none => rw [h1] at h; cases h
  | some v =>
   rw [h1] at h
   simp only [Option.bind_some] at h
   cases h2 : zbg P σ rs with
   | none => rw [h2] at h; cases h
   | some us => rw [h2] at h; cases h; simp [zjc h2]
theorem VRl.len {σ : St} {g : Gh} {w : World} : ∀ {xs : List V} {vs : List Value}, VRl σ g w xs vs -> vs.length = xs.length
 | [], _, h => by rw [show _ = [] from h]; rfl
 | x :: xs, _, h => by obtain ⟨v, vs', rfl, _, h2⟩ := h; simp [VRl.len h2]
end Go.Proofs.YtemnhgmgeijkcaaGreat
namespace Go.Proofs.YtemnhgmgeijkcaaGreat
set_option linter.unusedSimpArgs false
set_option linter.unusedVariables false
set_option linter.unusedSectionVars false
set_option maxRecDepth 4000
open Go.RowKit
variable {P : Program}
structure KeptB (W : List Nat) (σ τ : St) : Prop where
 sl : ∀ i, τ.sl i = .one .any \/ (τ.sl i = σ.sl i /\ (τ.sl i).okU τ)
 bx : ∀ b cs, b ∉ W -> τ.bx b = some cs -> σ.bx b = some cs /\ qhv τ cs
 bxW : ∀ b ∈ W, σ.bx b ≠ none /\ τ.bx b ≠ none
 ev : ∀ e x, τ.ev e = some x -> σ.ev e = some x /\ x.on = true /\ x.deep = true
theorem Rel.givenB {W : List Nat} {n0 : Nat -> Prop} {N : Nat} {σ τ : St} {g g' : Gh} {a : Act} {w w' : World} (hR : Rel n0 N σ g a w) (hn0 : LtK n0 w) (hK : KeptB W σ τ) {fp : List Nat} (hfp : ∀ b ∈ fp, ∃ e, σ.On e /\ τ.ev e = none /\ b ∈ g.φ e) (hbk : Bk (fun k => k < w.heap.size /\ k ∉ fp /\ ∀ b ∈ W, k ≠ g.β b) w w')
  {ev' : Nat -> Option Ev} {F : List Nat} (hn : New τ g (fun b => b ∈ fp \/ w.heap.size <= b) w' ev' g' F) (hW : ∀ b ∈ W, ∀ cs, τ.bx b = some cs -> ∃ vs ty, w'.heap[g.β b]? = some (.cells vs ty (0, 0)) /\ CRs ⟨τ.sl, τ.bx, ev'⟩ g' w' cs vs.toList) : Rel n0 N ⟨τ.sl, τ.bx, ev'⟩ g' a w' := by
 have hOnσ : ∀ e, τ.On e -> σ.On e := fun e ⟨x, hx, ho⟩ => ⟨x, (hK.ev e x hx).1, ho⟩
 have hlt : ∀ e, σ.On e -> ∀ b ∈ g.φ e, b < w.heap.size := fun e ⟨x, hx, ho⟩ => (hR.evs e x hx ho).lt
 have hbne : ∀ b, τ.bx b ≠ none -> σ.bx b ≠ none := fun b hb => by
  by_cases hbW : b ∈ W
  ·exact (hK.bxW b hbW).1
  obtain ⟨cs, hcs⟩ := Option.ne_none_iff_exists'.1 hb
  rw [(hK.bx b cs hbW hcs).1]; simp
 have hfR : ∀ b ∈ fp, g.A0 b /\ g.R0 b /\ ¬ n0 b := fun b hb => by
  obtain ⟨e, ho, _, hm⟩ := hfp b hb
  obtain ⟨k1, k2⟩ := hR.ebase e ho b hm
  exact ⟨k1, k2, hR.etop e ho b hm⟩
 have hNB : ∀ b, (b ∈ fp \/ w.heap.size <= b) -> g.A0 b /\ g.R0 b /\ ¬ n0 b := fun b hb => by
  rcases hb with hb | hb
  ·exact hfR b hb
  ·have hnn := hn0.new hb
   exact ⟨(hR.anew b hnn).1, (hR.anew b hnn).2, hnn⟩
 have hβfp : ∀ b, τ.bx b ≠ none -> ¬ (g.β b ∈ fp \/ w.heap.size <= g.β b) := fun b hb h => by
  rcases h with h | h
  ·obtain ⟨e, ho, _, hm⟩ := hfp _ h
   exact hR.ebx e b ho (hbne b hb) hm
  ·have := hR.lt (hbne b hb); omega
 have hφfp : ∀ e, τ.On e -> ∀ b ∈ g.φ e, ¬ (b ∈ fp \/ w.heap.size <= b) := fun e ho b hb h => by
  rcases h with h | h
  ·obtain ⟨e', ho', hno, hm⟩ := hfp b h
   refine hR.apart e e' (hOnσ e ho) ho' (fun hee => ?_) b hb hm
   subst hee
   obtain ⟨x, hx, _⟩ := ho
   rw [hx] at hno; cases hno
  ·have := hlt e (hOnσ e ho) b hb; omega
 have hon : ∀ e, St.On ⟨τ.sl, τ.bx, ev'⟩ e -> τ.ev e ≠ none -> τ.On e := fun e ⟨x, hx, ho⟩ hee => ⟨x, (hn.old e hee).1.symm.trans hx, ho⟩
 have hkeep : ∀ b, b < w.heap.size -> b ∉ fp -> (∀ k ∈ W, b ≠ g.β k) -> w'.heap[b]? = w.heap[b]? := fun b h1 h2 h3 => hbk.block b ⟨h1, h2, h3⟩
 have hrn : ∀ b, zca σ g w b -> w'.heap[b]? = w.heap[b]? /\ zca ⟨τ.sl, τ.bx, ev'⟩ g' w' b := fun b hb => by
  obtain ⟨hf, hr⟩ := hb
  have hnb : ∀ e, St.On ⟨τ.sl, τ.bx, ev'⟩ e -> b ∉ g'.φ e := fun e ho hm => by
   by_cases hee : τ.ev e = none
   ·obtain ⟨x, hx, _⟩ := ho
    rcases ((hn.new e x hee hx).2.2.1 b hm).1 with h | h
    ·obtain ⟨e', ho', _, hm'⟩ := hfp b h
     exact hr e' ho' hm'
    ·have := hf.2.2.1; omega
   ·rw [(hn.old e hee).2.2] at hm
    exact hr e (hOnσ e (hon e ho hee)) hm
  refine ⟨hkeep b hf.2.2.1 (fun hm => by obtain ⟨e', ho', _, hm'⟩ := hfp b hm; exact hr e' ho' hm') (fun k hk e => hf.1 k (hK.bxW k hk).1 e.symm), ⟨fun k hk => by rw [hn.β]; exact hf.1 k (hbne k hk), fun e x hx hon' hh => hnb e ⟨x, hx, hon'⟩ (List.mem_of_mem_head? hh), Nat.lt_of_lt_of_le hf.2.2.1 hbk.size, by rw [hn.A0]; exact hf.2.2.2⟩, hnb⟩
 have hψ : ∀ e, τ.ev e ≠ none -> ev' e = τ.ev e /\ g'.ψ e = g.ψ e := fun e he => ⟨(hn.old e he).1, (hn.old e he).2.1⟩
 refine ⟨by rw [hR.defers], hR.size, by rw [hn.A0, hn.R0]; exact hR.anew, fun i => ?_, fun b cs hb => ?_, fun b hb => by rw [hn.β]; exact hR.base b (hbne b hb), fun b b' h1 h2 h3 => by rw [hn.β] at h3; exact hR.inj b b' (hbne b h1) (hbne b' h2) h3, fun e x he ho => ?_, fun e x he ho => ?_, hn.slc, fun e he b hb => ?_, fun e he b hb => ?_, fun e he => ?_, fun e e' h1 h2 hne b hb1 hb2 => ?_, fun e k he hk hm => ?_⟩
 ·rcases hK.sl i with h | ⟨h, hok⟩
  ·rw [show (⟨τ.sl, τ.bx, ev'⟩ : St).sl i = .one .any from h]; trivial
  ·rw [hn.R0]
   show VR _ g' w' (τ.sl i) _
   have hs := hR.slots i
   rw [<- h] at hs
   exact qjo hn.β hψ hrn hok hs
 ·by_cases hbW : b ∈ W
  ·rw [hn.β]; exact hW b hbW cs hb
  obtain ⟨hb1, hb2⟩ := hK.bx b cs hbW hb
  obtain ⟨vs, ty, k1, k2⟩ := hR.boxes b cs hb1
  have hne : τ.bx b ≠ none := by rw [show τ.bx b = some cs from hb]; simp
  have hnf := hβfp b hne
  exact ⟨vs, ty, by rw [hn.β, hkeep _ (hR.lt (hbne b hne)) (fun h => hnf (Or.inl h)) (fun k hk e => hbW (hR.inj b k (hbne b hne) (hK.bxW k hk).1 e ▸ hk))]; exact k1, zkj hn.β hψ hrn hb2 k2⟩
 ·by_cases hee : τ.ev e = none
  ·obtain ⟨⟨k1, _, k0⟩, k2, k3, k4⟩ := hn.new e x hee he
   rw [k0]
   unfold zaw at k2
   obtain ⟨ao, cap, j1, j2, j3, j4⟩ := k2
   refine ⟨ao, cap, j1, j2, j3, ?_⟩
   rcases j4 with j4 | ⟨b, cells, ty, fps, j4, j5, j6, j7, j8⟩
   ·exact Or.inl j4
   ·exact Or.inr ⟨b, cells, ty, fps, j4, j5, j6, j7, by rw [if_pos k1]; exact j8⟩
  ·obtain ⟨o1, o2, o3⟩ := hn.old e hee
   have hx : τ.ev e = some x := o1.symm.trans he
   obtain ⟨k1, k2, k3⟩ := hK.ev e x hx
   have hE := hR.evs e x k1 k2
   have hno := hφfp e ⟨x, hx, k2⟩
   have hl := hlt e ⟨x, k1, k2⟩
   have hkp : ∀ b ∈ g.φ e, w'.heap[b]? = w.heap[b]? := fun b hb => hkeep b (hl b hb) (fun h => hno b hb (Or.inl h)) fun k' hk' e => hR.ebx _ k' ⟨x, k1, k2⟩ (hK.bxW k' hk').1 (e ▸ hb)
   rw [o2, o3]
   obtain ⟨ao, cap, r1, r2, r3, r4⟩ := hE
   refine ⟨ao, cap, r1, r2, r3, ?_⟩
   rcases r4 with r4 | ⟨b, cells, ty, fps, r4, r5, r6, r7, r8⟩
   ·exact Or.inl r4
   ·rw [if_pos k3] at r8
    exact Or.inr ⟨b, cells, ty, fps, r4, r5, by rw [hkp b (by rw [r5]; simp)]; exact r6, r7, by rw [if_pos k3]; exact zag.keep cells 0 x.sz x.rows fps r8 fun b' hb' => hkp b' (by rw [r5]; simp [hb'])⟩
 ·by_cases hee : τ.ev e = none
  ·rw [(hn.new e x hee he).1.2.1] at ho; cases ho
  ·have hx : τ.ev e = some x := (hn.old e hee).1.symm.trans he
   rw [(hK.ev e x hx).2.1] at ho; cases ho
 ·rw [hn.A0, hn.R0]
  by_cases hee : τ.ev e = none
  ·obtain ⟨x, hx, _⟩ := he
   have := hNB b ((hn.new e x hee hx).2.2.1 b hb).1
   exact ⟨this.1, this.2.1⟩
  ·rw [(hn.old e hee).2.2] at hb
   exact hR.ebase e (hOnσ e (hon e he hee)) b hb
 ·by_cases hee : τ.ev e = none
  ·obtain ⟨x, hx, _⟩ := he
   exact (hNB b ((hn.new e x hee hx).2.2.1 b hb).1).2.2
  ·rw [(hn.old e hee).2.2] at hb
   exact hR.etop e (hOnσ e (hon e he hee)) b hb
 ·by_cases hee : τ.ev e = none
  ·obtain ⟨x, hx, _⟩ := he
   exact (hn.new e x hee hx).2.2.2
  ·rw [(hn.old e hee).2.2]
   exact hR.nodup e (hOnσ e (hon e he hee))
 ·by_cases hee : τ.ev e = none
  ·obtain ⟨x, hx, _⟩ := h1
   by_cases hee' : τ.ev e' = none
   ·obtain ⟨x', hx', _⟩ := h2
    exact hn.apart e e' hee hee' (by rw [show ev' e = some x from hx]; simp) (by rw [show ev' e' = some x' from hx']; simp) hne b hb1 hb2
   ·rw [(hn.old e' hee').2.2] at hb2
    exact hφfp e' (hon e' h2 hee') b hb2 ((hn.new e x hee hx).2.2.1 b hb1).1
  ·rw [(hn.old e hee).2.2] at hb1
   by_cases hee' : τ.ev e' = none
   ·obtain ⟨x', hx', _⟩ := h2
    exact hφfp e (hon e h1 hee) b hb1 ((hn.new e' x' hee' hx').2.2.1 b hb2).1
   ·rw [(hn.old e' hee').2.2] at hb2
    exact hR.apart e e' (hOnσ e (hon e h1 hee)) (hOnσ e' (hon e' h2 hee')) hne b hb1 hb2
 ·rw [hn.β] at hm
  by_cases hee : τ.ev e = none
  ·obtain ⟨x, hx, _⟩ := he
   exact hβfp k hk ((hn.new e x hee hx).2.2.1 _ hm).1
  ·rw [(hn.old e hee).2.2] at hm
   exact hR.ebx e k (hOnσ e (hon e he hee)) (hbne k hk) hm
def mtK (W : List Nat) : List AF -> List V -> (List V -> Prop) -> Prop
 | [], [], K => K []
 | .d _ _ :: l, v :: vs, K => mtK W l vs fun u => K (v :: u)
 | .p j :: l, .one (.bx b o) :: vs, K => W[j]? = some b /\ o = 0 /\ mtK W l vs K
 | .fn g js :: l, .one (.fn g' bs) :: vs, K => g' = g /\ js.map (fun j => W[j]?) = bs.map some /\ mtK W l vs K
 | _, _, _ => False
theorem qb2 {g : Gh} {W : List Nat} {bs : Nat -> Nat} (hb : ∀ j b, W[j]? = some b -> bs j = g.β b) : ∀ (js bs' : List Nat), js.map (fun j => W[j]?) = bs'.map some -> bs'.map (fun b => Value.pointer (some ⟨g.β b, 0, none⟩)) = js.map fun j => qey (bs j)
 | [], [], _ => rfl
 | [], _ :: _, e => by cases e
 | _ :: _, [], e => by cases e
 | j :: js, b :: bs', e => by
  simp only [List.map_cons, List.cons.injEq] at e
  rw [List.map_cons, List.map_cons, qb2 hb js bs' e.2, hb j b e.1]
  rfl
theorem zgw {σ : St} {g : Gh} {w : World} {W : List Nat} {bs : Nat -> Nat} (hb : ∀ j b, W[j]? = some b -> bs j = g.β b) : ∀ {l : List AF} {xs : List V} {K : List V -> Prop} {vs : List Value}, mtK W l xs K -> VRl σ g w xs vs →
  ∃ us dvs, K us /\ VRl σ g w us dvs /\ dvs.length = (AF.ds l).length /\ vs = AF.vals bs l dvs
 | [], [], K, vs, h, hv => ⟨[], [], h, rfl, rfl, hv⟩
 | .d _ _ :: l, x :: xs, K, vs, h, hv => by
  obtain ⟨v, vs', rfl, h1, h2⟩ := hv
  obtain ⟨us, dvs, k1, k2, k3, k4⟩ := zgw hb (l := l) h h2
  exact ⟨x :: us, v :: dvs, k1, ⟨v, dvs, rfl, h1, k2⟩, by simp [AF.ds, k3], by rw [k4]; rfl⟩
 | .p j :: l, .one (.bx b o) :: xs, K, vs, h, hv => by
  obtain ⟨v, vs', rfl, h1, h2⟩ := hv
  obtain ⟨e1, rfl, h⟩ := h
  obtain ⟨us, dvs, k1, k2, k3, k4⟩ := zgw hb (l := l) h h2
  refine ⟨us, dvs, k1, k2, k3, ?_⟩
  have h1 : CR σ g w (.bx b 0) v := h1
  rw [k4, h1.1, <- hb j b e1]
  rfl
 | .fn f js :: l, .one (.fn f' bs') :: xs, K, vs, h, hv => by
  obtain ⟨v, vs', rfl, h1, h2⟩ := hv
  obtain ⟨rfl, e1, h⟩ := h
  obtain ⟨us, dvs, k1, k2, k3, k4⟩ := zgw hb (l := l) h h2
  refine ⟨us, dvs, k1, k2, k3, ?_⟩
  have h1 : CR σ g w (.fn f' bs') v := h1
  rw [k4, h1.1]
  rw [qb2 hb js bs' e1]
  rfl
 | .d _ _ :: _, [], _, _, h, _ => h.elim
 | .p _ :: _, [], _, _, h, _ => h.elim
 | .fn _ _ :: _, [], _, _, h, _ => h.elim
 | [], _ :: _, _, _, h, _ => h.elim
 | .p _ :: _, .agg _ :: _, _, _, h, _ => h.elim
 | .p _ :: _, .tup _ :: _, _, _, h, _ => h.elim
 | .fn _ _ :: _, .agg _ :: _, _, _, h, _ => h.elim
 | .fn _ _ :: _, .tup _ :: _, _, _, h, _ => h.elim
 | .p _ :: _, .one (.t _) :: _, _, _, h, _ => h.elim
 | .p _ :: _, .one (.nl _) :: _, _, _, h, _ => h.elim
 | .p _ :: _, .one (.ow _ _) :: _, _, _, h, _ => h.elim
 | .p _ :: _, .one (.el _ _) :: _, _, _, h, _ => h.elim
 | .p _ :: _, .one (.eo _ _ _ _ _) :: _, _, _, h, _ => h.elim
 | .p _ :: _, .one (.fn _ _) :: _, _, _, h, _ => h.elim
 | .p _ :: _, .one (.cv _) :: _, _, _, h, _ => h.elim
 | .p _ :: _, .one .any :: _, _, _, h, _ => h.elim
 | .p _ :: _, .one (.rn _) :: _, _, _, h, _ => h.elim
 | .p _ :: _, .one (.er _ _) :: _, _, _, h, _ => h.elim
 | .fn _ _ :: _, .one (.t _) :: _, _, _, h, _ => h.elim
 | .fn _ _ :: _, .one (.nl _) :: _, _, _, h, _ => h.elim
 | .fn _ _ :: _, .one (.ow _ _) :: _, _, _, h, _ => h.elim
 | .fn _ _ :: _, .one (.el _ _) :: _, _, _, h, _ => h.elim
 | .fn _ _ :: _, .one (.eo _ _ _ _ _) :: _, _, _, h, _ => h.elim
 | .fn _ _ :: _, .one (.bx _ _) :: _, _, _, h, _ => h.elim
 | .fn _ _ :: _, .one (.cv _) :: _, _, _, h, _ => h.elim
 | .fn _ _ :: _, .one .any :: _, _, _, h, _ => h.elim
 | .fn _ _ :: _, .one (.rn _) :: _, _, _, h, _ => h.elim
 | .fn _ _ :: _, .one (.er _ _) :: _, _, _, h, _ => h.elim
def qm2 (σ : St) : List Nat -> Bxs -> (List V -> Prop) -> Prop
 | [], [], K => K []
 | k :: W, b :: bx, K => zaq (σ.bx k) fun cs => cs.length = b.length /\ qm2 σ W bx fun l => K (cs.map .one ++ l)
 | _, _, _ => False
theorem zlj {n0 : Nat -> Prop} {N : Nat} {σ : St} {g : Gh} {a : Act} {w : World} (hR : Rel n0 N σ g a w) {bs : Nat -> Nat} : ∀ {W : List Nat} {bx : Bxs} {j : Nat} {K : List V -> Prop}, (∀ i b, W[i]? = some b -> bs (j + i) = g.β b) -> qm2 σ W bx K →
  ∃ l bvs, K l /\ VRl σ g w l bvs.flatten /\ zyd w bs j bvs bx /\ W.length = bx.length /\ ∀ b ∈ W, σ.bx b ≠ none
 | [], [], j, K, _, h => ⟨[], [], h, rfl, trivial, rfl, fun b hb => by simp at hb⟩
 | k :: W, b :: bx, j, K, hb, h => by
  obtain ⟨cs, h1, h2, h3⟩ := zan h
  obtain ⟨l, bvs, k1, k2, k3, k4, k5⟩ := zlj hR (W := W) (bx := bx) (j := j + 1) (fun i b hi => by have := hb (i + 1) b (by simpa using hi); rw [show j + (i + 1) = j + 1 + i by omega] at this; exact this) h3
  obtain ⟨us, ty, j1, j2⟩ := hR.boxes k cs h1
  have hk := hb 0 k rfl
  rw [Nat.add_zero] at hk
  refine ⟨_, us.toList :: bvs, k1, VRl.append j2.ones k2, ⟨by rw [j2.len, h2], ⟨ty, by rw [hk]; exact j1⟩, k3⟩, by simp [k4], fun x hx => ?_⟩
  rcases List.mem_cons.1 hx with rfl | hx
  ·rw [h1]; simp
  ·exact k5 x hx
 | [], _ :: _, _, _, _, h => h.elim
 | _ :: _, [], _, _, _, h => h.elim
theorem qbx {σ : St} {K K' : List V -> Prop} (hK : ∀ l, K l -> K' l) : ∀ {W : List Nat} {bx : Bxs}, qm2 σ W bx K -> qm2 σ W bx K' := fun {W} => by
 induction W generalizing K K' with
 | nil => intro bx h; cases bx with
  | nil => exact hK _ h
  | cons _ _ => exact h.elim
 | cons k W ih => intro bx h; cases bx with
  | nil => exact h.elim
  | cons b bx =>
   obtain ⟨cs, h1, h2, h3⟩ := zan h
   show zaq (σ.bx k) _
   rw [h1]
   exact ⟨h2, ih (fun l => hK _) h3⟩
theorem qhn {W : List Nat} : ∀ {l : List AF} {xs : List V} {K K' : List V -> Prop}, (∀ u, K u -> K' u) -> mtK W l xs K -> mtK W l xs K' := fun {l} => by
 induction l with
 | nil => intro xs K K' hK h; cases xs with
  | nil => exact hK _ h
  | cons _ _ => exact h.elim
 | cons a l ih => intro xs K K' hK h; cases xs with
  | nil => cases a <;> exact h.elim
  | cons x xs =>
   cases a with
   | d b y => exact ih (fun u => hK _) h
   | p j =>
    cases x with
    | one c => cases c <;> first | exact h.elim | exact ⟨h.1, h.2.1, ih hK h.2.2⟩
    | agg _ => exact h.elim
    | tup _ => exact h.elim
   | fn g js =>
    cases x with
    | one c => cases c <;> first | exact h.elim | exact ⟨h.1, h.2.1, ih hK h.2.2⟩
    | agg _ => exact h.elim
    | tup _ => exact h.elim
def zix (d : Nat) : Nat -> List Nat -> Bxs -> (Nat -> Option (List C)) -> (Nat -> Option (List C))
 | m, k :: W, b :: bx, f => upd (zix d (m + b.length) W bx f) k (some (mC d m b))
 | _, _, _, f => f
theorem zu4 (d : Nat) : ∀ (W : List Nat) (bx : Bxs) (m : Nat) (f : Nat -> Option (List C)) (b : Nat), b ∉ W -> zix d m W bx f b = f b
 | [], _, _, _, _, _ => by unfold zix; rfl
 | k :: W, [], _, _, _, _ => by unfold zix; rfl
 | k :: W, c :: bx, m, f, b, hb => by
  unfold zix
  rw [zam _ _ (fun e => hb (by simp [e]))]
  exact zu4 d W bx _ f b fun h => hb (by simp [h])
theorem qdk (d : Nat) : ∀ (W : List Nat) (bx : Bxs) (m : Nat) (f : Nat -> Option (List C)) (b : Nat), W.length = bx.length -> b ∈ W -> zix d m W bx f b ≠ none
 | [], _, _, _, _, _, hb => by simp at hb
 | k :: W, [], _, _, _, hl, _ => by simp at hl
 | k :: W, c :: bx, m, f, b, hl, hb => by
  unfold zix
  by_cases h : b = k
  ·subst h; rw [zah]; simp
  ·rw [zam _ _ h]
   exact qdk d W bx _ f b (by simpa using hl) ((List.mem_cons.1 hb).resolve_left h)
theorem zky {σ : St} {g : Gh} {w : World} {bs : Nat -> Nat} (d : Nat) {β : Nat -> Nat} : ∀ (W : List Nat) (bx : Bxs) (bvs : List (List Value)) (j m : Nat) (f : Nat -> Option (List C)), (∀ i b, W[i]? = some b -> bs (j + i) = β b) -> zyd w bs j bvs bx -> CRs σ g w (mC d m bx.flatten) bvs.flatten -> W.length = bx.length →
  ∀ b ∈ W, ∀ cs, zix d m W bx f b = some cs -> ∃ vs ty, w.heap[β b]? = some (.cells vs ty (0, 0)) /\ CRs σ g w cs vs.toList
 | [], _, _, _, _, _, _, _, _, _, b, hb, _, _ => by simp at hb
 | k :: W, [], _, _, _, _, _, _, _, hl, _, _, _, _ => by simp at hl
 | k :: W, c :: bx, [], _, _, _, _, h0, _, _, _, _, _, _ => h0.elim
 | k :: W, c :: bx, vs :: bvs, j, m, f, hβ, h0, hc, hl, b, hb, cs, hs => by
  obtain ⟨h1, ⟨ty, h2⟩, h3⟩ := h0
  rw [List.flatten_cons, List.flatten_cons, zfo] at hc
  obtain ⟨v1, v2, e, c1, c2⟩ := hc.split
  obtain ⟨e1, e2⟩ := List.append_inj e (by rw [c1.len, zos, h1])
  subst e1 e2
  unfold zix at hs
  by_cases h : b = k
  ·subst h
   rw [zah] at hs
   cases hs
   have := hβ 0 b rfl
   rw [Nat.add_zero] at this
   exact ⟨⟨vs⟩, ty, by rw [<- this]; exact h2, c1⟩
  ·rw [zam _ _ h] at hs
   exact zky d W bx bvs (j + 1) (m + c.length) f (fun i b hi => by have := hβ (i + 1) b (by simpa using hi); rw [show j + (i + 1) = j + 1 + i by omega] at this; exact this) h3 c2 (by simpa using hl) b ((List.mem_cons.1 hb).resolve_left h) cs hs
def St.callP (σ : St) (d : Nat) (W : List Nat) (bx' : Bxs) (res : List (Bool × D)) : St := { sl := upd σ.sl d (zn9 (mD d 0 res)), bx := zix d (zbv res).length W bx' σ.bx, ev := mE d 0 (zbv res ++ bx'.flatten) σ.ev }
theorem CRs.split_flat {σ : St} {g : Gh} {w w' : World} {A : Nat -> Prop} {d m : Nat} {l : List (Bool × T)} {c : Bxs} {us vs : List Value} (h : CRs σ g w (mC d 0 (l ++ c.flatten)) (us ++ vs)) (hl : us.length = l.length) : CRs σ g w (mC d 0 l) us /\ CRs σ g w (mC d l.length c.flatten) vs := by
 rw [zfo] at h
 obtain ⟨v1, v2, e, c1, c2⟩ := h.split
 obtain ⟨e1, e2⟩ := List.append_inj e (by rw [c1.len, zos, hl])
 subst e1 e2
 rw [Nat.zero_add] at c2
 exact ⟨c1, c2⟩
theorem zar.one_vals {w : World} {A : Nat -> Prop} : ∀ {ds : List (Bool × D)} {vs : List Value} {fp tp : List Nat}, zar w A ds vs fp tp -> (vs.flatMap fun u => u.cells.toList).length = (zbv ds).length := fun {ds vs fp tp} h => by
 obtain ⟨tp', h'⟩ := h.flat
 rw [zar.len h']
 unfold bxA
 rw [List.length_map]
theorem qak {W : List Nat} {o : Oper} {σ : St} {τs : Nat -> V} {τe : Nat -> Option Ev} {τb : Nat -> Option (List C)} {x : Operand} {asx : Array Operand} {ts : Array TypeId} {f : FuncId} {cvs : List V} {d : Nat} {bx bx' : Bxs} {l : List AF} {res : List (Bool × D)} {ps : List (Nat × Nat × Nat)} (ho : o.op = .call ⟨.value x, asx, ts⟩) (hd : o.dst = some d)
  (h : PC P f bx l bx' res) (hc : zas (σ.get P 0 x) = some (f, cvs)) (hK : KeptB W σ ⟨τs, zix d (zbv res).length W bx' τb, τe⟩) (hWn : W.Nodup)
  (hv : mtK W l (σ.gets P asx ts ++ cvs) fun us => qm2 σ W bx fun cs => gvA σ (fun u => ∀ s ∈ u, τe s.1 = none) [] ps (us ++ cs) (AF.ds l ++ bxA bx.flatten)) (hf : mF d 0 (zbv res ++ bx'.flatten) τe) : zaf P o σ (St.callP ⟨τs, τb, τe⟩ d W bx' res) := by
 intro n0 N g a w hR hn hdN
 obtain ⟨vs, h1, h2⟩ := zc8 hR ho hc h.1
 unfold Oper.wp
 rw [h1]
 obtain ⟨B, hB⟩ := hR.fam
 let bs : Nat -> Nat := fun j => g.β (W.getD j 0)
 have hbs : ∀ j b, W[j]? = some b -> bs j = g.β b := fun j b hj => by show g.β (W.getD j 0) = _; rw [List.getD_eq_getElem?_getD, hj]; rfl
 obtain ⟨us, dvs, a1, a2, a3, rfl⟩ := zgw hbs hv h2
 obtain ⟨cs, bvs, b1, b2, b3, b4, b5⟩ := zlj hR (bs := bs) (j := 0) (fun i b hi => by rw [Nat.zero_add]; exact hbs i b hi) a1
 obtain ⟨s, k1, ⟨tp, k2⟩, k3, k4⟩ := zeu hR hB b1 (VRl.append a2 b2)
 rw [List.append_nil] at k1 k4
 have hsp : s.Pairwise okP := (List.pairwise_reverse.1 (k4 List.Pairwise.nil)).imp fun h => h.symm
 have hnd := zdx hR hB k3 hsp
 have hfp : ∀ b ∈ bks B s, ∃ e, σ.On e /\ τe e = none /\ b ∈ g.φ e := fun b hb => by
  obtain ⟨x, hx, hm⟩ := List.mem_flatMap.1 hb
  exact ⟨x.1, k3 x hx, k1 x (List.mem_reverse.2 hx), hB.sub x.1 x.2 b (k3 x hx) hm⟩
 have hfn : ∀ b, zca σ g w b -> b ∉ bks B s := fun b hb hm => by obtain ⟨e, h1, _, h3⟩ := hfp b hm; exact hb.2 e h1 h3
 have hWj : ∀ j, j < bx.length -> ∃ b, W[j]? = some b /\ b ∈ W /\ bs j = g.β b := fun j hj => by
  have hlt : j < W.length := by omega
  exact ⟨W[j], List.getElem?_eq_getElem hlt, List.getElem_mem hlt, hbs j _ (List.getElem?_eq_getElem hlt)⟩
 have hWb : ∀ b ∈ W, ∃ j, j < bx.length /\ bs j = g.β b := fun b hb => by
  obtain ⟨j, hj, rfl⟩ := List.getElem_of_mem hb
  exact ⟨j, by omega, hbs j _ (List.getElem?_eq_getElem hj)⟩
 have hinj : ∀ i j, i < bx.length -> j < bx.length -> bs i = bs j -> i = j := fun i j hi hj he => by
  obtain ⟨b, e1, e2, e3⟩ := hWj i hi
  obtain ⟨c, f1, f2, f3⟩ := hWj j hj
  have : b = c := hR.inj b c (b5 b e2) (b5 c f2) (by rw [<- e3, <- f3]; exact he)
  subst this
  have hi' : i < W.length := by omega
  have hj' : j < W.length := by omega
  rw [List.getElem?_eq_getElem hi'] at e1
  rw [List.getElem?_eq_getElem hj'] at f1
  exact (List.getElem_inj hWn).1 ((Option.some.inj e1).trans (Option.some.inj f1).symm)
 have hbf : ∀ j, j < bx.length -> bs j ∉ bks B s := fun j hj hm => by
  obtain ⟨b, _, e2, e3⟩ := hWj j hj
  obtain ⟨e, h1, _, h3⟩ := hfp _ hm
  exact hR.ebx e b h1 (b5 b e2) (e3 ▸ h3)
 have hfb : ∀ b, zca σ g w b -> ∀ j, j < bx.length -> b ≠ bs j := fun b hb j hj e => by
  obtain ⟨c, _, e2, e3⟩ := hWj j hj
  exact hb.1.1 c (b5 c e2) (by rw [<- e3, e])
 refine (h.2.2 w bs bvs dvs (bks B s) tp (zca σ g w) hinj hbf b3 (zar.keepA (fun b hb => ⟨⟨hb.1.2.2.1, hfn b hb, hfb b hb⟩, hb⟩) k2) hnd a3).mono ?_
 rintro e w' ⟨us', bvs', fp', tp', rfl, hbx', hlu, o1, o2, o3, hbk⟩
 obtain ⟨v1, v2, f1, f2, t1, t2, ev, ef, et, p1, p2⟩ := zar.split o1
 obtain ⟨rfl, rfl⟩ := List.append_inj ev (by rw [hlu, zar.len p1])
 subst ef
 obtain ⟨t1', p1'⟩ := p1.flat
 have pp := zar.append p1' p2
 rw [<- zh1] at pp
 have hnew := New.refl ⟨τs, zix d (zbv res).length W bx' τb, τe⟩ g (fun b => b ∈ bks B s \/ w.heap.size <= b) w' hR.slc
 obtain ⟨g', q1, q2, q3⟩ := New.mix (τ := ⟨τs, zix d (zbv res).length W bx' τb, τe⟩) (g := g) (NB := fun b => b ∈ bks B s \/ w.heap.size <= b) (w' := w') d (zbv res ++ bx'.flatten) _ (f1 ++ f2) _ 0 τe g [] hnew hf pp o2 (fun b hb' => ⟨o3 b hb', by simp⟩)
 have hbk' : Bk (fun k => k < w.heap.size /\ k ∉ bks B s /\ ∀ b ∈ W, k ≠ g.β b) w w' := ⟨hbk.os, hbk.tape, hbk.output, hbk.size, fun k hk => hbk.block k ⟨hk.1, hk.2.1, fun j hj e => by
  obtain ⟨c, _, e2, e3⟩ := hWj j hj
  exact hk.2.2 c e2 (by rw [<- e3, e])⟩⟩
 have hfree : ∀ k, ((k < w'.heap.size /\ k ∉ f1 ++ f2 /\ ∀ j, j < bx.length -> k ≠ bs j) /\ (zca σ g w k \/ w.heap.size <= k \/ k ∈ bks B s)) -> zca ⟨τs, zix d (zbv res).length W bx' τb, mE d 0 (zbv res ++ bx'.flatten) τe⟩ g' w' k := fun k hk => by
  have hOnσ : ∀ e, St.On ⟨τs, zix d (zbv res).length W bx' τb, τe⟩ e -> σ.On e := fun e ⟨x, hx, ho⟩ => ⟨x, (hK.ev e x hx).1, ho⟩
  have hno : ∀ e, St.On ⟨τs, zix d (zbv res).length W bx' τb, mE d 0 (zbv res ++ bx'.flatten) τe⟩ e -> k ∉ g'.φ e := fun e ho' hm => by
   by_cases hee : τe e = none
   ·obtain ⟨x, hx, _⟩ := ho'
    have := ((q1.new e x hee hx).2.2.1 k hm).2
    rw [List.nil_append] at this
    exact hk.1.2.1 this
   ·rw [(q1.old e hee).2.2] at hm
    obtain ⟨x, hx, hon⟩ := ho'
    have ho2 : St.On ⟨τs, zix d (zbv res).length W bx' τb, τe⟩ e := ⟨x, (q1.old e hee).1.symm.trans hx, hon⟩
    rcases hk.2 with h | h | h
    ·exact h.2 e (hOnσ e ho2) hm
    ·obtain ⟨y, hy, hyo⟩ := hOnσ e ho2
     have := (hR.evs e y hy hyo).lt k hm; omega
    ·obtain ⟨e', h1, h2, h3⟩ := hfp k h
     refine hR.apart e e' (hOnσ e ho2) h1 (fun ee => ?_) k hm h3
     subst ee
     obtain ⟨y, hy, _⟩ := ho2
     have hy : τe e = some y := hy
     rw [h2] at hy; cases hy
  have hbne : ∀ b, zix d (zbv res).length W bx' τb b ≠ none -> σ.bx b ≠ none := fun b hb => by
   by_cases hbW : b ∈ W
   ·exact (hK.bxW b hbW).1
   obtain ⟨cs, hcs⟩ := Option.ne_none_iff_exists'.1 hb
   rw [(hK.bx b cs hbW hcs).1]; simp
  refine ⟨⟨fun j hj e => ?_, fun e x hx hon hh => hno e ⟨x, hx, hon⟩ (List.mem_of_mem_head? hh), hk.1.1, ?_⟩, hno⟩
  ·have hj' := hbne j hj
   rw [q1.β] at e
   rcases hk.2 with h | h | h
   ·exact h.1.1 j hj' e
   ·have := hR.lt hj'; omega
   ·obtain ⟨e', h1, _, h3⟩ := hfp k h
    exact hR.ebx e' j h1 hj' (e ▸ h3)
  ·rw [q1.A0]
   rcases hk.2 with h | h | h
   ·exact h.1.2.2.2
   ·exact (hR.anew k (hn.new h)).1
   ·obtain ⟨e', h1, _, h3⟩ := hfp k h
    exact (hR.ebase e' h1 k h3).1
 have hcr := q3 ⟨τs, zix d (zbv res).length W bx' τb, mE d 0 (zbv res ++ bx'.flatten) τe⟩ w' rfl fun t v h => zao.keep (fun _ _ => rfl) hfree t v h
 obtain ⟨hc1, hc2⟩ := hcr.split_flat (A := fun _ => True) (w' := w') (m := 0) (zar.one_vals p1)
 have hR' := hR.givenB hn hK (fun b hb => by obtain ⟨e, x1, x2, x3⟩ := hfp b hb; exact ⟨e, x1, x2, x3⟩) hbk' q1 (zky d W bx' bvs' 0 (zbv res).length τb (fun i b hi => by rw [Nat.zero_add]; exact hbs i b hi) hbx' hc2 (by rw [h.2.1]; omega))
 have hBk : Bk n0 w w' := ⟨hbk.os, hbk.tape, hbk.output, hbk.size, fun k hk => hbk.block k ⟨hn k hk, fun hm => by
  obtain ⟨e, h1, _, h3⟩ := hfp k hm
  exact hR.etop e h1 k h3 hk, fun j hj e => by
  obtain ⟨c, _, e2, e3⟩ := hWj j hj
  exact hR.base c (b5 c e2) (by rw [<- e3, <- e]; exact hk)⟩⟩
 refine ⟨g', ?_, hBk, q1.A0, q1.R0⟩
 have hp := hR'.put (some d) (x := zn9 (mD d 0 res)) (v := zbp us') (ze3 (zxs d 0 p1 hc1) (zu7 d res 0)) (fun i hi => by cases hi; exact hdN d hd)
 rw [hd]
 exact hp
end Go.Proofs.YtemnhgmgeijkcaaGreat
namespace Go.Proofs.YtemnhgmgeijkcaaGreat
set_option linter.unusedSimpArgs false
set_option linter.unusedVariables false
set_option linter.unusedSectionVars false
set_option maxRecDepth 4000
open Go.RowKit
variable {P : Program}
def subN : List Nat -> List Nat -> Prop
 | [], _ => True
 | x :: xs, l => noK x l = false /\ subN xs l
theorem zy3 : ∀ {x : Nat} {l : List Nat}, noK x l = false -> x ∈ l
 | _, [], h => by cases h
 | x, y :: l, h => by
  unfold noK at h
  by_cases e : x = y
  ·simp [e]
  ·rw [if_neg e] at h; exact List.mem_cons_of_mem _ (zy3 h)
theorem zi4 : ∀ {xs l : List Nat}, subN xs l -> ∀ x ∈ xs, x ∈ l
 | [], _, _, x, hx => by simp at hx
 | y :: xs, l, h, x, hx => by
  rcases List.mem_cons.1 hx with rfl | hx
  ·exact zy3 h.1
  ·exact zi4 h.2 x hx
theorem zkc {σ : St} : ∀ (L : List Nat) (i : Nat), (i ∈ L -> zf9 (σ.lL L) i = σ.sl i) /\ (i ∉ L -> zf9 (σ.lL L) i = .one .any)
 | [], i => ⟨fun h => by simp at h, fun _ => rfl⟩
 | j :: L, i => by
  show (_ -> (if i = j then σ.sl j else zf9 (σ.lL L) i) = _) /\ (_ -> (if i = j then σ.sl j else zf9 (σ.lL L) i) = _)
  by_cases h : i = j
  ·subst h; rw [if_pos rfl]; exact ⟨fun _ => rfl, fun h => by simp at h⟩
  ·rw [if_neg h]
   exact ⟨fun hm => (zkc L i).1 ((List.mem_cons.1 hm).resolve_left h), fun hm => (zkc L i).2 fun h' => hm (List.mem_cons_of_mem _ h')⟩
theorem ze2 {α : Type} (f : Nat -> α) : ∀ (L : List Nat) (i : Nat), (i ∈ L -> tbl (L.map fun b => (b, f b)) i = some (f i)) /\ (i ∉ L -> tbl (L.map fun b => (b, f b)) i = none)
 | [], i => ⟨fun h => by simp at h, fun _ => rfl⟩
 | j :: L, i => by
  show (_ -> (if i = j then some (f j) else tbl (L.map fun b => (b, f b)) i) = _) /\ (_ -> (if i = j then some (f j) else tbl (L.map fun b => (b, f b)) i) = _)
  by_cases h : i = j
  ·subst h; rw [if_pos rfl]; exact ⟨fun _ => rfl, fun h => by simp at h⟩
  ·rw [if_neg h]
   exact ⟨fun hm => (ze2 f L i).1 ((List.mem_cons.1 hm).resolve_left h), fun hm => (ze2 f L i).2 fun h' => hm (List.mem_cons_of_mem _ h')⟩
def blank (W : List Nat) (f : Nat -> Option (List C)) : Nat -> Option (List C)
 | b => if noK b W = true then f b else some []
theorem qhb (W : List Nat) (f : Nat -> Option (List C)) (b : Nat) : blank W f b = if noK b W = true then f b else some [] := rfl
def St.wB (σ : St) (W : List Nat) : St := ⟨σ.sl, blank W σ.bx, σ.ev⟩
def St.BW (σ : St) (L W : List Nat) : List Nat := dif W ((σ.wB W).KB L)
def St.EW (σ : St) (L W : List Nat) : List Nat := (σ.wB W).KE L
def St.hW (σ : St) (L W : List Nat) : St := ⟨zf9 (σ.lL L), tbl (σ.lB (σ.BW L W)), tbl (σ.lE (σ.EW L W))⟩
section
variable {ks : List Fr} {Q : Exit -> St -> Prop} {σ : St} {ops : Array Oper} {os : List Oper} {ty : TypeId} {ps : String} {af : Array Edge} {d : Nat} {x : Operand} {asx : Array Operand} {ts : Array TypeId} {f : FuncId} {bx bx' : Bxs} {l : List AF} {res : List (Bool × D)}
theorem callPL (L A W : List Nat) (pl : List (Nat × Nat × Nat)) (h : PC P f bx l bx' res) (hWn : W.Nodup) (hWl : W.length = bx'.length) (hw : wkK σ (A ++ L))
  (hk : subN (σ.BW L W) (σ.KB (A ++ L)) /\ subN W (σ.KB (A ++ L)) /\ subN (σ.EW L W) (σ.KE (A ++ L)) /\ okL ⟨zf9 (σ.lL L), zix d (zbv res).length W bx' (tbl (σ.lB (σ.BW L W))), tbl (σ.lE (σ.EW L W))⟩ (σ.lL L) /\ okB ⟨zf9 (σ.lL L), zix d (zbv res).length W bx' (tbl (σ.lB (σ.BW L W))), tbl (σ.lE (σ.EW L W))⟩ (σ.lB (σ.BW L W)) /\ okE (σ.lE (σ.EW L W)))
  (hp : zaq (zas ((σ.hL (A ++ L)).get P 0 x)) fun p => p.1 = f /\ mtK W l ((σ.hL (A ++ L)).gets P asx ts ++ p.2) fun us => qm2 (σ.hL (A ++ L)) W bx fun cs => gvA (σ.hL (A ++ L)) (zpl (σ.lE (σ.EW L W))) [] pl (us ++ cs) (AF.ds l ++ bxA bx.flatten))
  (hf : mF d 0 (zbv res ++ bx'.flatten) (tbl (σ.lE (σ.EW L W))))
  (k : exo P ops os ks Q ((σ.hW L W).callP d W bx' res)) : exo P ops (⟨some d, .call ⟨.value x, asx, ts⟩, ty, ps, af, none⟩ :: os) ks Q σ := by
 obtain ⟨⟨f', cvs⟩, h1, rfl, h2⟩ := zan hp
 obtain ⟨k1, k2, k3, k4, k5, k6⟩ := hk
 have hK : KeptB W (σ.hL (A ++ L)) ⟨zf9 (σ.lL L), zix d (zbv res).length W bx' (tbl (σ.lB (σ.BW L W))), tbl (σ.lE (σ.EW L W))⟩ := by
  refine ⟨fun i => ?_, fun b cs hb hcs => ?_, fun b hb => ⟨?_, qdk d W bx' _ _ b hWl hb⟩, fun e x he => ?_⟩
  ·by_cases hi : i ∈ L
   ·refine Or.inr ⟨?_, znw k4 i⟩
    show zf9 (σ.lL L) i = zf9 (σ.lL (A ++ L)) i
    rw [(zkc L i).1 hi, (zkc (A ++ L) i).1 (List.mem_append_right _ hi)]
   ·exact Or.inl ((zkc L i).2 hi)
  ·have hcs : zix d (zbv res).length W bx' (tbl (σ.lB (σ.BW L W))) b = some cs := hcs
   rw [zu4 d W bx' _ _ b hb] at hcs
   by_cases hm : b ∈ σ.BW L W
   ·refine ⟨?_, znb k5 b cs hcs⟩
    have e1 := (ze2 (fun b => (σ.bx b).getD []) (σ.BW L W) b).1 hm
    have e2 := (ze2 (fun b => (σ.bx b).getD []) (σ.KB (A ++ L)) b).1 (zi4 k1 b hm)
    have e1 : tbl (σ.lB (σ.BW L W)) b = some ((σ.bx b).getD []) := e1
    rw [e1] at hcs
    cases hcs
    exact e2
   ·have e1 := (ze2 (fun b => (σ.bx b).getD []) (σ.BW L W) b).2 hm
    have e1 : tbl (σ.lB (σ.BW L W)) b = none := e1
    rw [e1] at hcs; cases hcs
  ·have e2 := (ze2 (fun b => (σ.bx b).getD []) (σ.KB (A ++ L)) b).1 (zi4 k2 b hb)
   have e2 : (σ.hL (A ++ L)).bx b = some ((σ.bx b).getD []) := e2
   rw [e2]; simp
  ·have he : tbl (σ.lE (σ.EW L W)) e = some x := he
   by_cases hm : e ∈ σ.EW L W
   ·refine ⟨?_, zm0 k6 e x he⟩
    have e1 := (ze2 (fun e => (σ.ev e).getD ⟨false, 0, [], 0, false⟩) (σ.EW L W) e).1 hm
    have e2 := (ze2 (fun e => (σ.ev e).getD ⟨false, 0, [], 0, false⟩) (σ.KE (A ++ L)) e).1 (zi4 k3 e hm)
    have e1 : tbl (σ.lE (σ.EW L W)) e = some ((σ.ev e).getD ⟨false, 0, [], 0, false⟩) := e1
    rw [e1] at he
    cases he
    exact e2
   ·have e1 := (ze2 (fun e => (σ.ev e).getD ⟨false, 0, [], 0, false⟩) (σ.EW L W) e).2 hm
    have e1 : tbl (σ.lE (σ.EW L W)) e = none := e1
    rw [e1] at he; cases he
 refine zcl rfl rfl (zaf.pre (wkK_wk hw) (qak (P := P) (o := ⟨some d, .call ⟨.value x, asx, ts⟩, ty, ps, af, none⟩) rfl rfl h h1 hK hWn (ps := pl) ?_ hf)) k
 exact qhn (fun us hu => qbx (fun cs hc => zfz (fun u hu => zhh hu) hc) hu) h2
end
attribute [go_sem] AF.ds c1P zu8 zjl zc3 zh6 zit bxE PB PB0 mtK qm2 zix St.callP subN qhb St.wB St.BW St.EW St.hW bxA List.flatten_cons List.flatten_nil
end Go.Proofs.YtemnhgmgeijkcaaGreat
namespace Go.Proofs.YtemnhgmgeijkcaaGreat
set_option linter.unusedSimpArgs false
set_option linter.unusedVariables false
set_option linter.unusedSectionVars false
set_option maxRecDepth 4000
open Go.RowKit
variable {P : Program}
section
variable {ks : List Fr} {Q : Exit -> St -> Prop} {σ : St} {ops : Array Oper} {os : List Oper} {L : List (List Ky × List Ky)} {ty : TypeId} {ps : String} {af : Array Edge} {d : Nat} {x : Operand} {asx : Array Operand} {ts : Array TypeId} {f : FuncId} {bx bx' : Bxs} {l : List AF} {res : List (Bool × D)}
theorem qi8 {ds0 res0 : List D} {gR : List Ky} (h : FC P f ds0 res0) (hp : zaq (zas (σ.get P 0 x)) fun p => p.1 = f /\ VDs σ (σ.gets P asx ts ++ p.2) ds0 /\ zhn d 0 (za4 res0) σ.ev)
  (k : exd P ops os (L ++ [(gR ++ (zax (x :: asx.toList) ++ (vsK σ (σ.gets P asx ts ++ ql0 (zas (σ.get P 0 x))) ++ eK (owL d 0 (za4 res0)))), dK (some d) ++ eK (owL d 0 (za4 res0)))]) ks Q (σ.callF d res0)) :
  zyk P ops ⟨some d, .call ⟨.value x, asx, ts⟩, ty, ps, af, none⟩ os L gR ks Q σ := by
 obtain ⟨⟨f', cvs⟩, h1, rfl, h2, h3⟩ := zan hp
 rw [h1] at k
 exact qll _ _ _ _ _ _ rfl (zp7 rfl rfl h h1 h2 h3) k
end
end Go.Proofs.YtemnhgmgeijkcaaGreat
namespace Go.Proofs.YtemnhgmgeijkcaaGreat
set_option linter.unusedSimpArgs false
set_option linter.unusedVariables false
set_option linter.unusedSectionVars false
set_option maxRecDepth 4000
open Go.RowKit
def zyg (s t : Str) : Int := if Op.bytesLess s t = true then -1 else if (s == t) = true then 0 else 1
def bnC (p : Str × Tm) : List T := .str p.1 :: tmC p.2
def sbS (l : List (Str × Tm)) : T := .sl 3 (l.map bnC)
theorem zt6 (n : Str) (t : Tm) : bnC (n, t) = [.str n, .str t.name, .sl 2 (t.args.map tmC)] := by unfold bnC; rw [zaa]
end Go.Proofs.YtemnhgmgeijkcaaGreat
namespace Go.Proofs.YtemnhgmgeijkcaaGreat
set_option linter.unusedSimpArgs false
set_option linter.unusedVariables false
set_option linter.unusedSectionVars false
set_option maxRecDepth 4000
open Go.RowKit
def eqL {α : Type} (p : α -> α -> Bool) : List α -> List α -> Bool
 | [], [] => true
 | a :: xs, b :: ys => p a b && eqL p xs ys
 | _, _ => false
theorem qba {α : Type} {p : α -> α -> Bool} : ∀ {xs ys : List α}, xs.length ≠ ys.length -> eqL p xs ys = false
 | [], [], h => absurd rfl h
 | [], _ :: _, _ => rfl
 | _ :: _, [], _ => rfl
 | a :: xs, b :: ys, h => by simp only [eqL]; rw [qba (by simpa using h), Bool.and_false]
theorem zvz {α : Type} {p : α -> α -> Bool} : ∀ {xs ys : List α}, (∀ x ∈ xs, ∀ y, p x y = same x y) -> eqL p xs ys = same xs ys
 | [], [], _ => zf0.symm
 | [], _ :: _, _ => (zct.2 (by simp)).symm
 | _ :: _, [], _ => (zct.2 (by simp)).symm
 | a :: xs, b :: ys, h => by simp only [eqL]; rw [zcm, h a (by simp) b, zvz fun x hx y => h x (by simp [hx]) y]
set_option maxRecDepth 10000 in
set_option maxHeartbeats 400000 in
theorem zje (xs ys : List Tm) (p : Tm -> Tm -> Bool) (g : FuncId) (caps : List T) (H : ∀ x ∈ xs, ∀ y ∈ ys, FC Tryz.prog g (tmD x :: tmD y :: caps.map .one) [bD (p x y)]) : FC Tryz.prog 230 [.one (tmS xs), .one (tmS ys), .one (.fn g caps)] [bD (eqL p xs ys)] := by
 refine zc1 (fun hw => ?_) Tryz.call230
 have hl : xs.length <= 9223372036854775807 := by simpa [zf5, wfT] using hw.1.1
 have hl2 : ys.length <= 9223372036854775807 := by simpa [zf5, wfT] using hw.2.1.1
 refine zaj Tryz.call230 Tryz.func230 rfl (by kernel_rfl) (zav (by kernel_rfl)) ?_
 simp -implicitDefEqProofs only [go_sem, Tryz.results230]
 refine ⟨fun h => ?_, fun h => ?_⟩
 ·rw [qba (by rintro e; simp [e] at h)]
 ·have hlen : xs.length = ys.length := by simp at h; omega
  refine zad (fun k : Nat => hd [(1, vT (tmS ys)), (2, .one (.t (.fn g caps))), (15, vT (tmS xs)), (16, vI xs.length), (17, vI k)] [] []) (fun k => k <= xs.length /\ eqL p xs ys = eqL p (xs.drop k) (ys.drop k)) (fun k => xs.length - k) 0 (zab ?_) ?_ ?_
  ·simp -implicitDefEqProofs only [go_sem]
  ·simp
  ·intro k ⟨hk, hr⟩
   by_cases hlt : k < xs.length
   ·have hk2 : k < ys.length := by omega
    simp -implicitDefEqProofs only [go_sem, List.length_map, zai, hlt, hk2, zaa]
    refine callF (H xs[k] (List.getElem_mem hlt) ys[k] (List.getElem_mem hk2)) (by simp -implicitDefEqProofs only [go_sem, zaa]) ?_
    simp -implicitDefEqProofs only [go_sem, zaa]
    rw [List.drop_eq_getElem_cons hlt, List.drop_eq_getElem_cons hk2, eqL] at hr
    refine ⟨fun h => ?_, fun h => ?_⟩
    ·rw [hr, show p xs[k] ys[k] = false by simpa using h]; rfl
    ·rw [show p xs[k] ys[k] = true by simpa using h, Bool.true_and] at hr
     rw [zak (by omega)]
     exact ⟨k + 1, ⟨by omega, hr⟩, by omega, zab (by simp -implicitDefEqProofs only [go_sem])⟩
   ·simp -implicitDefEqProofs only [go_sem, List.length_map, hlt]
    rw [hr, List.drop_of_length_le (by omega), List.drop_of_length_le (by omega)]; rfl
end Go.Proofs.YtemnhgmgeijkcaaGreat
namespace Go.Proofs.YtemnhgmgeijkcaaGreat
set_option linter.unusedSimpArgs false
set_option linter.unusedVariables false
set_option linter.unusedSectionVars false
set_option maxRecDepth 4000
open Go.RowKit
theorem zkd (a b : Tm) : same a b = (same a.name b.name && same a.args b.args) := by
 cases a; cases b
 rw [Bool.eq_iff_iff]
 simp only [Bool.and_eq_true, zcj, Tm.name, Tm.args, Tm.mk.injEq]
theorem zi8 {α : Type} [BEq α] [LawfulBEq α] (a b : α) : (a == b) = same a b := by
 rw [Bool.eq_iff_iff, beq_iff_eq, zcj]
theorem zwz (a b : Tm) (H : FC Tryz.prog 230 [.one (tmS a.args), .one (tmS b.args), .one (.fn 165 [])] [bD (same a.args b.args)]) :
  FC Tryz.prog 165 [tmD a, tmD b] [bD (same a b)] := by
 simp only [tmD, zaa]
 refine zaj Tryz.call165 Tryz.func165 rfl (by kernel_rfl) (zav (by kernel_rfl)) ?_
 simp -implicitDefEqProofs only [go_sem, Tryz.results165]
 refine ⟨fun h => ?_, fun h => ?_⟩
 ·refine callF (H) (by simp -implicitDefEqProofs only [go_sem]) ?_
  simp -implicitDefEqProofs only [go_sem]
  rw [zkd, <- zi8 a.name, h, Bool.true_and]
 ·rw [zkd, <- zi8 a.name, h]; rfl
theorem zid : ∀ a b : Tm, FC Tryz.prog 165 [tmD a, tmD b] [bD (same a b)] :=
 zba fun n xs ih b => zwz (.mk n xs) b (by
  rw [show same (Tm.mk n xs).args b.args = eqL same (Tm.mk n xs).args b.args from (zvz fun _ _ _ => rfl).symm]
  exact zje xs b.args same _ [] fun x hx y _ => ih x hx y)
theorem qaf (a b : Tm) (H : ∀ x ∈ a.args, ∀ y, FC Tryz.prog 154 [tmD x, tmD y] [bD (same x y)]) : FC Tryz.prog 154 [tmD a, tmD b] [bD (same a b)] := by
 refine zc1 (fun hw => ?_) Tryz.call154
 simp only [tmD, zaa] at hw ⊢
 have hl : a.args.length <= 9223372036854775807 := by simp [zf5, wfT, zra] at hw; exact hw.1.2.1
 refine zaj Tryz.call154 Tryz.func154 rfl (by kernel_rfl) (zav (by kernel_rfl)) ?_
 simp -implicitDefEqProofs only [go_sem, Tryz.results154]
 refine ⟨fun h1 => ?_, fun h1 => by rw [zkd, <- zi8 a.name, show (a.name == b.name) = false by simpa using h1]; rfl⟩
 have h1' : same a.name b.name = true := by rw [<- zi8]; simpa using h1
 refine ⟨fun h2 => ?_, fun h2 => ?_⟩
 ·rw [zkd, h1', Bool.true_and, zct.2 (by rintro e; simp [e] at h2)]
 have hlen : a.args.length = b.args.length := by simp at h2; omega
 have hs : same a b = same a.args b.args := by rw [zkd, h1', Bool.true_and]
 refine zad (fun k : Nat => hd [(2, .one (.bx 2 0)), (3, .one (.bx 3 0)), (4, vB false), (5, vI k)] [(2, [.t (.str a.name), .t (tmS a.args)]), (3, [.t (.str b.name), .t (tmS b.args)])] []) (fun k => k <= a.args.length /\ same a.args b.args = same (a.args.drop k) (b.args.drop k)) (fun k => a.args.length - k) 0 (zab ?_) ?_ ?_
 ·simp -implicitDefEqProofs only [go_sem]
 ·simp
 ·intro k ⟨hk, hr⟩
  by_cases hlt : k < a.args.length
  ·have hk2 : k < b.args.length := by omega
   simp -implicitDefEqProofs only [go_sem, hlt]
   refine drawn (by kernel_rfl) ?_
   simp -implicitDefEqProofs only [go_sem, zai, hlt, hk2, zaa]
   refine za1 (H a.args[k] (List.getElem_mem hlt) b.args[k]) (by simp -implicitDefEqProofs only [go_sem, zaa]) ?_
   simp -implicitDefEqProofs only [go_sem, zaa]
   rw [List.drop_eq_getElem_cons hlt, List.drop_eq_getElem_cons hk2, zcm] at hr
   refine ⟨by kernel_rfl, fun h => ?_, fun h => ?_⟩
   ·rw [hs, hr, show same a.args[k] b.args[k] = false by simpa using h]; rfl
   ·rw [show same a.args[k] b.args[k] = true by simpa using h, Bool.true_and] at hr
    rw [zak (by omega)]
    exact ⟨k + 1, ⟨by omega, hr⟩, by omega, zab (by simp -implicitDefEqProofs only [go_sem])⟩
  ·simp -implicitDefEqProofs only [go_sem, hlt]
   rw [hs, hr, List.drop_of_length_le (by omega), List.drop_of_length_le (by omega), zf0]
theorem zut : ∀ a b : Tm, FC Tryz.prog 154 [tmD a, tmD b] [bD (same a b)] := zba fun n xs ih b => qaf (.mk n xs) b ih
end Go.Proofs.YtemnhgmgeijkcaaGreat
namespace Go.Proofs.YtemnhgmgeijkcaaGreat
set_option linter.unusedSimpArgs false
set_option linter.unusedVariables false
set_option linter.unusedSectionVars false
set_option maxRecDepth 4000
open Go.RowKit
def mkF (op : Int) (ps : List Fm) : Fm := .mk op (.mk [] []) [] ps
theorem zbw (op : Int) (ps : List Fm) : fmC (mkF op ps) = [.int .i64 op, .str [], .sl 2 [], .str [], .sl 5 (ps.map fmC)] := zac _
end Go.Proofs.YtemnhgmgeijkcaaGreat
namespace Go.Proofs.YtemnhgmgeijkcaaGreat
set_option linter.unusedSimpArgs false
set_option linter.unusedVariables false
set_option linter.unusedSectionVars false
set_option maxRecDepth 4000
open Go.RowKit
set_option maxHeartbeats 4000000 in
theorem zxg (f : Fm) (hs : f.wt <= 1099511627776) (H : ∀ x ∈ f.parts, FC Tryz.prog 182 [fmD x] [bD x.forms]) : FC Tryz.prog 182 [fmD f] [bD f.forms] := by
 have H1 : ∀ x ∈ f.parts, FC Tryz.prog 245 [fmD x] [bD (!x.forms)] := fun x hx => by
  simp only [fmD, zac]
  refine zaj Tryz.call245 Tryz.func245 rfl (by kernel_rfl) (zav (by kernel_rfl)) ?_
  simp -implicitDefEqProofs only [go_sem, Tryz.results245]
  refine callF (H x hx) (by simp -implicitDefEqProofs only [go_sem, zac]) ?_
  simp -implicitDefEqProofs only [go_sem, zac]
 have hN := f.forms_eq
 obtain ⟨o, a, v, ps⟩ := f
 have ha : a.wt <= 1099511627776 := Nat.le_trans (zmm (.mk o a v ps)) hs
 have e0 : ((ps.length : Int) != 0) = !decide (ps.length = 0) := zst _ 0
 have e1 : ((ps.length : Int) != 1) = !decide (ps.length = 1) := zst _ 1
 have e2 : ((ps.length : Int) != 2) = !decide (ps.length = 2) := zst _ 2
 simp only [Fm.parts] at H1 hN
 rcases zuy o with rfl | rfl | rfl | rfl | rfl | rfl | rfl | rfl | rfl | ⟨n1, n2, n3, n4, n5, n6, n7, n8, n9⟩
 ·have hH : Fm.here (.mk 1 a v ps) = (decide (ps.length = 0) && a.none && (v == [])) := rfl
  rw [hH] at hN
  have hq : isQ 1 = false := rfl
  have hb : zlf 1 = false := rfl
  simp only [fmD, zac, Fm.op, Fm.atom, Fm.var, Fm.parts]
  refine zaj Tryz.call182 Tryz.func182 rfl (by kernel_rfl) (zav (by kernel_rfl)) ?_
  simp -implicitDefEqProofs only [go_sem, Tryz.results182]
  simp only [e0]
  refine ⟨fun h => ?_, fun h => ?_⟩
  ·have h' : decide (ps.length = 0) = true := by simpa using h
   refine callF (zal 1) (by simp -implicitDefEqProofs only [go_sem, hq]) ?_
   simp -implicitDefEqProofs only [go_sem, hq]
   refine callF (zal 1) (by simp -implicitDefEqProofs only [go_sem, hq]) ?_
   simp -implicitDefEqProofs only [go_sem, hq]
   refine ⟨fun h1 => ?_, fun h1 => ?_⟩
   ·rw [hN, show (v == []) = false by simpa using h1, Bool.and_false, Bool.false_and]
   ·have h1' : (v == []) = true := by simpa using h1
    refine callF (zbz a) (by simp -implicitDefEqProofs only [go_sem, zaa]) ?_
    simp -implicitDefEqProofs only [go_sem, zaa]
    refine ⟨fun h2 => ?_, fun h2 => ?_⟩
    ·rw [hN, show a.none = false by simpa using h2, Bool.and_false, Bool.false_and, Bool.false_and]
    ·have h2' : a.none = true := by simpa using h2
     refine callF (zat ps (fun x => !x.forms) _ [] H1) (by simp -implicitDefEqProofs only [go_sem]) ?_
     simp -implicitDefEqProofs only [go_sem]
     rw [zdd, hN, h', h1', h2']; rfl
  ·rw [hN, show decide (ps.length = 0) = false by simpa using h]; rfl
 ·have hH : Fm.here (.mk 2 a v ps) = (decide (ps.length = 0) && a.none && (v == [])) := rfl
  rw [hH] at hN
  have hq : isQ 2 = false := rfl
  have hb : zlf 2 = false := rfl
  simp only [fmD, zac, Fm.op, Fm.atom, Fm.var, Fm.parts]
  refine zaj Tryz.call182 Tryz.func182 rfl (by kernel_rfl) (zav (by kernel_rfl)) ?_
  simp -implicitDefEqProofs only [go_sem, Tryz.results182]
  simp only [e0]
  refine ⟨fun h => ?_, fun h => ?_⟩
  ·have h' : decide (ps.length = 0) = true := by simpa using h
   refine callF (zal 2) (by simp -implicitDefEqProofs only [go_sem, hq]) ?_
   simp -implicitDefEqProofs only [go_sem, hq]
   refine callF (zal 2) (by simp -implicitDefEqProofs only [go_sem, hq]) ?_
   simp -implicitDefEqProofs only [go_sem, hq]
   refine ⟨fun h1 => ?_, fun h1 => ?_⟩
   ·rw [hN, show (v == []) = false by simpa using h1, Bool.and_false, Bool.false_and]
   ·have h1' : (v == []) = true := by simpa using h1
    refine callF (zbz a) (by simp -implicitDefEqProofs only [go_sem, zaa]) ?_
    simp -implicitDefEqProofs only [go_sem, zaa]
    refine ⟨fun h2 => ?_, fun h2 => ?_⟩
    ·rw [hN, show a.none = false by simpa using h2, Bool.and_false, Bool.false_and, Bool.false_and]
    ·have h2' : a.none = true := by simpa using h2
     refine callF (zat ps (fun x => !x.forms) _ [] H1) (by simp -implicitDefEqProofs only [go_sem]) ?_
     simp -implicitDefEqProofs only [go_sem]
     rw [zdd, hN, h', h1', h2']; rfl
  ·rw [hN, show decide (ps.length = 0) = false by simpa using h]; rfl
 ·have hH : Fm.here (.mk 3 a v ps) = (decide (ps.length = 0) && a.atomOk && (v == [])) := rfl
  rw [hH] at hN
  have hq : isQ 3 = false := rfl
  have hb : zlf 3 = false := rfl
  simp only [fmD, zac, Fm.op, Fm.atom, Fm.var, Fm.parts]
  refine zaj Tryz.call182 Tryz.func182 rfl (by kernel_rfl) (zav (by kernel_rfl)) ?_
  simp -implicitDefEqProofs only [go_sem, Tryz.results182]
  simp only [e0]
  refine ⟨fun h => ?_, fun h => ?_⟩
  ·have h' : decide (ps.length = 0) = true := by simpa using h
   refine callF (zal 3) (by simp -implicitDefEqProofs only [go_sem, hq]) ?_
   simp -implicitDefEqProofs only [go_sem, hq]
   refine callF (zal 3) (by simp -implicitDefEqProofs only [go_sem, hq]) ?_
   simp -implicitDefEqProofs only [go_sem, hq]
   refine ⟨fun h1 => ?_, fun h1 => ?_⟩
   ·rw [hN, show (v == []) = false by simpa using h1, Bool.and_false, Bool.false_and]
   ·have h1' : (v == []) = true := by simpa using h1
    refine callF (znh a ha) (by simp -implicitDefEqProofs only [go_sem, zaa]) ?_
    simp -implicitDefEqProofs only [go_sem, zaa]
    refine And.symm ⟨fun h2 => ?_, fun h2 => ?_⟩
    ·rw [hN, show a.atomOk = false by simpa using h2, Bool.and_false, Bool.false_and, Bool.false_and]
    ·have h2' : a.atomOk = true := by simpa using h2
     refine callF (zat ps (fun x => !x.forms) _ [] H1) (by simp -implicitDefEqProofs only [go_sem]) ?_
     simp -implicitDefEqProofs only [go_sem]
     rw [zdd, hN, h', h1', h2']; rfl
  ·rw [hN, show decide (ps.length = 0) = false by simpa using h]; rfl
 ·have hH : Fm.here (.mk 4 a v ps) = (decide (ps.length = 1) && a.none && (v == [])) := rfl
  rw [hH] at hN
  have hq : isQ 4 = false := rfl
  have hb : zlf 4 = false := rfl
  simp only [fmD, zac, Fm.op, Fm.atom, Fm.var, Fm.parts]
  refine zaj Tryz.call182 Tryz.func182 rfl (by kernel_rfl) (zav (by kernel_rfl)) ?_
  simp -implicitDefEqProofs only [go_sem, Tryz.results182]
  simp only [e1]
  refine ⟨fun h => ?_, fun h => ?_⟩
  ·have h' : decide (ps.length = 1) = true := by simpa using h
   refine callF (zal 4) (by simp -implicitDefEqProofs only [go_sem, hq]) ?_
   simp -implicitDefEqProofs only [go_sem, hq]
   refine callF (zal 4) (by simp -implicitDefEqProofs only [go_sem, hq]) ?_
   simp -implicitDefEqProofs only [go_sem, hq]
   refine ⟨fun h1 => ?_, fun h1 => ?_⟩
   ·rw [hN, show (v == []) = false by simpa using h1, Bool.and_false, Bool.false_and]
   ·have h1' : (v == []) = true := by simpa using h1
    refine callF (zbz a) (by simp -implicitDefEqProofs only [go_sem, zaa]) ?_
    simp -implicitDefEqProofs only [go_sem, zaa]
    refine ⟨fun h2 => ?_, fun h2 => ?_⟩
    ·rw [hN, show a.none = false by simpa using h2, Bool.and_false, Bool.false_and, Bool.false_and]
    ·have h2' : a.none = true := by simpa using h2
     refine callF (zat ps (fun x => !x.forms) _ [] H1) (by simp -implicitDefEqProofs only [go_sem]) ?_
     simp -implicitDefEqProofs only [go_sem]
     rw [zdd, hN, h', h1', h2']; rfl
  ·rw [hN, show decide (ps.length = 1) = false by simpa using h]; rfl
 ·have hH : Fm.here (.mk 5 a v ps) = (decide (ps.length = 2) && a.none && (v == [])) := rfl
  rw [hH] at hN
  have hq : isQ 5 = false := rfl
  have hb : zlf 5 = true := rfl
  simp only [fmD, zac, Fm.op, Fm.atom, Fm.var, Fm.parts]
  refine zaj Tryz.call182 Tryz.func182 rfl (by kernel_rfl) (zav (by kernel_rfl)) ?_
  simp -implicitDefEqProofs only [go_sem, Tryz.results182]
  refine callF (zal 5) (by simp -implicitDefEqProofs only [go_sem, hq]) ?_
  simp -implicitDefEqProofs only [go_sem, hq]
  refine callF (zf4 5) (by simp -implicitDefEqProofs only [go_sem, hb]) ?_
  simp -implicitDefEqProofs only [go_sem, hb]
  simp only [e2]
  refine ⟨fun h => ?_, fun h => ?_⟩
  ·have h' : decide (ps.length = 2) = true := by simpa using h
   refine callF (zal 5) (by simp -implicitDefEqProofs only [go_sem, hq]) ?_
   simp -implicitDefEqProofs only [go_sem, hq]
   refine callF (zal 5) (by simp -implicitDefEqProofs only [go_sem, hq]) ?_
   simp -implicitDefEqProofs only [go_sem, hq]
   refine ⟨fun h1 => ?_, fun h1 => ?_⟩
   ·rw [hN, show (v == []) = false by simpa using h1, Bool.and_false, Bool.false_and]
   ·have h1' : (v == []) = true := by simpa using h1
    refine callF (zbz a) (by simp -implicitDefEqProofs only [go_sem, zaa]) ?_
    simp -implicitDefEqProofs only [go_sem, zaa]
    refine ⟨fun h2 => ?_, fun h2 => ?_⟩
    ·rw [hN, show a.none = false by simpa using h2, Bool.and_false, Bool.false_and, Bool.false_and]
    ·have h2' : a.none = true := by simpa using h2
     refine callF (zat ps (fun x => !x.forms) _ [] H1) (by simp -implicitDefEqProofs only [go_sem]) ?_
     simp -implicitDefEqProofs only [go_sem]
     rw [zdd, hN, h', h1', h2']; rfl
  ·rw [hN, show decide (ps.length = 2) = false by simpa using h]; rfl
 ·have hH : Fm.here (.mk 6 a v ps) = (decide (ps.length = 2) && a.none && (v == [])) := rfl
  rw [hH] at hN
  have hq : isQ 6 = false := rfl
  have hb : zlf 6 = true := rfl
  simp only [fmD, zac, Fm.op, Fm.atom, Fm.var, Fm.parts]
  refine zaj Tryz.call182 Tryz.func182 rfl (by kernel_rfl) (zav (by kernel_rfl)) ?_
  simp -implicitDefEqProofs only [go_sem, Tryz.results182]
  refine callF (zal 6) (by simp -implicitDefEqProofs only [go_sem, hq]) ?_
  simp -implicitDefEqProofs only [go_sem, hq]
  refine callF (zf4 6) (by simp -implicitDefEqProofs only [go_sem, hb]) ?_
  simp -implicitDefEqProofs only [go_sem, hb]
  simp only [e2]
  refine ⟨fun h => ?_, fun h => ?_⟩
  ·have h' : decide (ps.length = 2) = true := by simpa using h
   refine callF (zal 6) (by simp -implicitDefEqProofs only [go_sem, hq]) ?_
   simp -implicitDefEqProofs only [go_sem, hq]
   refine callF (zal 6) (by simp -implicitDefEqProofs only [go_sem, hq]) ?_
   simp -implicitDefEqProofs only [go_sem, hq]
   refine ⟨fun h1 => ?_, fun h1 => ?_⟩
   ·rw [hN, show (v == []) = false by simpa using h1, Bool.and_false, Bool.false_and]
   ·have h1' : (v == []) = true := by simpa using h1
    refine callF (zbz a) (by simp -implicitDefEqProofs only [go_sem, zaa]) ?_
    simp -implicitDefEqProofs only [go_sem, zaa]
    refine ⟨fun h2 => ?_, fun h2 => ?_⟩
    ·rw [hN, show a.none = false by simpa using h2, Bool.and_false, Bool.false_and, Bool.false_and]
    ·have h2' : a.none = true := by simpa using h2
     refine callF (zat ps (fun x => !x.forms) _ [] H1) (by simp -implicitDefEqProofs only [go_sem]) ?_
     simp -implicitDefEqProofs only [go_sem]
     rw [zdd, hN, h', h1', h2']; rfl
  ·rw [hN, show decide (ps.length = 2) = false by simpa using h]; rfl
 ·have hH : Fm.here (.mk 7 a v ps) = (decide (ps.length = 2) && a.none && (v == [])) := rfl
  rw [hH] at hN
  have hq : isQ 7 = false := rfl
  have hb : zlf 7 = true := rfl
  simp only [fmD, zac, Fm.op, Fm.atom, Fm.var, Fm.parts]
  refine zaj Tryz.call182 Tryz.func182 rfl (by kernel_rfl) (zav (by kernel_rfl)) ?_
  simp -implicitDefEqProofs only [go_sem, Tryz.results182]
  refine callF (zal 7) (by simp -implicitDefEqProofs only [go_sem, hq]) ?_
  simp -implicitDefEqProofs only [go_sem, hq]
  refine callF (zf4 7) (by simp -implicitDefEqProofs only [go_sem, hb]) ?_
  simp -implicitDefEqProofs only [go_sem, hb]
  simp only [e2]
  refine ⟨fun h => ?_, fun h => ?_⟩
  ·have h' : decide (ps.length = 2) = true := by simpa using h
   refine callF (zal 7) (by simp -implicitDefEqProofs only [go_sem, hq]) ?_
   simp -implicitDefEqProofs only [go_sem, hq]
   refine callF (zal 7) (by simp -implicitDefEqProofs only [go_sem, hq]) ?_
   simp -implicitDefEqProofs only [go_sem, hq]
   refine ⟨fun h1 => ?_, fun h1 => ?_⟩
   ·rw [hN, show (v == []) = false by simpa using h1, Bool.and_false, Bool.false_and]
   ·have h1' : (v == []) = true := by simpa using h1
    refine callF (zbz a) (by simp -implicitDefEqProofs only [go_sem, zaa]) ?_
    simp -implicitDefEqProofs only [go_sem, zaa]
    refine ⟨fun h2 => ?_, fun h2 => ?_⟩
    ·rw [hN, show a.none = false by simpa using h2, Bool.and_false, Bool.false_and, Bool.false_and]
    ·have h2' : a.none = true := by simpa using h2
     refine callF (zat ps (fun x => !x.forms) _ [] H1) (by simp -implicitDefEqProofs only [go_sem]) ?_
     simp -implicitDefEqProofs only [go_sem]
     rw [zdd, hN, h', h1', h2']; rfl
  ·rw [hN, show decide (ps.length = 2) = false by simpa using h]; rfl
 ·have hH : Fm.here (.mk 8 a v ps) = (decide (ps.length = 1) && a.none && zay v) := rfl
  rw [hH] at hN
  have hq : isQ 8 = true := rfl
  have hb : zlf 8 = false := rfl
  simp only [fmD, zac, Fm.op, Fm.atom, Fm.var, Fm.parts]
  refine zaj Tryz.call182 Tryz.func182 rfl (by kernel_rfl) (zav (by kernel_rfl)) ?_
  simp -implicitDefEqProofs only [go_sem, Tryz.results182]
  refine callF (zal 8) (by simp -implicitDefEqProofs only [go_sem, hq]) ?_
  simp -implicitDefEqProofs only [go_sem, hq]
  simp only [e1]
  refine ⟨fun h => ?_, fun h => ?_⟩
  ·have h' : decide (ps.length = 1) = true := by simpa using h
   refine callF (zal 8) (by simp -implicitDefEqProofs only [go_sem, hq]) ?_
   simp -implicitDefEqProofs only [go_sem, hq]
   refine callF (zfq v) (by simp -implicitDefEqProofs only [go_sem]) ?_
   simp -implicitDefEqProofs only [go_sem]
   refine ⟨fun h1 => ?_, fun h1 => ?_⟩
   ·have h1' : zay v = true := by simpa using h1
    refine callF (zal 8) (by simp -implicitDefEqProofs only [go_sem, hq]) ?_
    simp -implicitDefEqProofs only [go_sem, hq]
    refine callF (zbz a) (by simp -implicitDefEqProofs only [go_sem, zaa]) ?_
    simp -implicitDefEqProofs only [go_sem, zaa]
    refine ⟨fun h2 => ?_, fun h2 => ?_⟩
    ·rw [hN, show a.none = false by simpa using h2, Bool.and_false, Bool.false_and, Bool.false_and]
    ·have h2' : a.none = true := by simpa using h2
     refine callF (zat ps (fun x => !x.forms) _ [] H1) (by simp -implicitDefEqProofs only [go_sem]) ?_
     simp -implicitDefEqProofs only [go_sem]
     rw [zdd, hN, h', h1', h2']; rfl
   ·rw [hN, show zay v = false by simpa using h1, Bool.and_false, Bool.false_and]
  ·rw [hN, show decide (ps.length = 1) = false by simpa using h]; rfl
 ·have hH : Fm.here (.mk 9 a v ps) = (decide (ps.length = 1) && a.none && zay v) := rfl
  rw [hH] at hN
  have hq : isQ 9 = true := rfl
  have hb : zlf 9 = false := rfl
  simp only [fmD, zac, Fm.op, Fm.atom, Fm.var, Fm.parts]
  refine zaj Tryz.call182 Tryz.func182 rfl (by kernel_rfl) (zav (by kernel_rfl)) ?_
  simp -implicitDefEqProofs only [go_sem, Tryz.results182]
  refine callF (zal 9) (by simp -implicitDefEqProofs only [go_sem, hq]) ?_
  simp -implicitDefEqProofs only [go_sem, hq]
  simp only [e1]
  refine ⟨fun h => ?_, fun h => ?_⟩
  ·have h' : decide (ps.length = 1) = true := by simpa using h
   refine callF (zal 9) (by simp -implicitDefEqProofs only [go_sem, hq]) ?_
   simp -implicitDefEqProofs only [go_sem, hq]
   refine callF (zfq v) (by simp -implicitDefEqProofs only [go_sem]) ?_
   simp -implicitDefEqProofs only [go_sem]
   refine ⟨fun h1 => ?_, fun h1 => ?_⟩
   ·have h1' : zay v = true := by simpa using h1
    refine callF (zal 9) (by simp -implicitDefEqProofs only [go_sem, hq]) ?_
    simp -implicitDefEqProofs only [go_sem, hq]
    refine callF (zbz a) (by simp -implicitDefEqProofs only [go_sem, zaa]) ?_
    simp -implicitDefEqProofs only [go_sem, zaa]
    refine ⟨fun h2 => ?_, fun h2 => ?_⟩
    ·rw [hN, show a.none = false by simpa using h2, Bool.and_false, Bool.false_and, Bool.false_and]
    ·have h2' : a.none = true := by simpa using h2
     refine callF (zat ps (fun x => !x.forms) _ [] H1) (by simp -implicitDefEqProofs only [go_sem]) ?_
     simp -implicitDefEqProofs only [go_sem]
     rw [zdd, hN, h', h1', h2']; rfl
   ·rw [hN, show zay v = false by simpa using h1, Bool.and_false, Bool.false_and]
  ·rw [hN, show decide (ps.length = 1) = false by simpa using h]; rfl
 ·have hH : Fm.here (.mk o a v ps) = false := by simp [Fm.here, zlf, isQ, Fm.op, *]
  rw [hH] at hN
  have f1 : (o == 1) = false := by simpa using n1
  have f2 : (o == 2) = false := by simpa using n2
  have f3 : (o == 3) = false := by simpa using n3
  have f4 : (o == 4) = false := by simpa using n4
  have hq : isQ o = false := by simp [isQ, n8, n9]
  have hb : zlf o = false := by simp [zlf, n5, n6, n7]
  simp only [fmD, zac, Fm.op, Fm.atom, Fm.var, Fm.parts]
  refine zaj Tryz.call182 Tryz.func182 rfl (by kernel_rfl) (zav (by kernel_rfl)) ?_
  simp -implicitDefEqProofs only [go_sem, Tryz.results182, f1, f2, f3, f4]
  refine callF (zal o) (by simp -implicitDefEqProofs only [go_sem, hq]) ?_
  simp -implicitDefEqProofs only [go_sem, hq]
  refine callF (zf4 o) (by simp -implicitDefEqProofs only [go_sem, hb]) ?_
  simp -implicitDefEqProofs only [go_sem, hb]
  rw [hN]; rfl
theorem zyx : ∀ a : Fm, a.wt <= 1099511627776 -> FC Tryz.prog 182 [fmD a] [bD a.forms] :=
 za7 fun o a v xs ih hs => zxg (.mk o a v xs) hs fun x hx => ih x hx (Nat.le_trans (zbx (a := .mk o a v xs) hx) hs)
theorem zcq (a : Fm) (hs : a.wt <= 1099511627776) : FC Tryz.prog 116 [fmD a] [bD a.good] := by
 simp only [fmD, zac]
 refine zaj Tryz.call116 Tryz.func116 rfl (by kernel_rfl) (zav (by kernel_rfl)) ?_
 simp -implicitDefEqProofs only [go_sem, Tryz.results116]
 refine callF (qgi a hs) (by simp -implicitDefEqProofs only [go_sem, zac]) ?_
 simp -implicitDefEqProofs only [go_sem, zac]
 rw [qgt]
 refine ⟨fun h => ?_, fun h => ?_⟩
 ·refine callF (zyx a hs) (by simp -implicitDefEqProofs only [go_sem, zac]) ?_
  simp -implicitDefEqProofs only [go_sem, zac]
  rw [Fm.good, h, Bool.true_and]
 ·rw [Fm.good, h, Bool.false_and]
end Go.Proofs.YtemnhgmgeijkcaaGreat
namespace Go.Proofs.YtemnhgmgeijkcaaGreat
set_option linter.unusedSimpArgs false
set_option linter.unusedVariables false
set_option linter.unusedSectionVars false
set_option maxRecDepth 4000
open Go.RowKit
theorem zs8 {a : Tm} (h : a.none = true) : a = .mk [] [] := by
 obtain ⟨n, xs⟩ := a
 simp only [Tm.none, Tm.name, Tm.args, Bool.and_eq_true, beq_iff_eq, decide_eq_true_eq, List.length_eq_zero_iff] at h
 rw [h.1, h.2]
theorem len1 {α : Type} {xs : List α} (h : xs.length = 1) : ∃ x, xs = [x] := by
 match xs, h with
 | [x], _ => exact ⟨x, rfl⟩
theorem len2 {α : Type} {xs : List α} (h : xs.length = 2) : ∃ x y, xs = [x, y] := by
 match xs, h with
 | [x, y], _ => exact ⟨x, y, rfl⟩
theorem zsx (o : Int) (a : Tm) (v : Str) (ps : List Fm) : Fm.here (.mk o a v ps) =
  if (o == 1 || o == 2) = true then decide (ps.length = 0) && a.none && (v == [])
  else if (o == 3) = true then decide (ps.length = 0) && a.atomOk && (v == [])
  else if (o == 4) = true then decide (ps.length = 1) && a.none && (v == [])
  else if (o == 5 || o == 6 || o == 7) = true then decide (ps.length = 2) && a.none && (v == [])
  else if (o == 8 || o == 9) = true then decide (ps.length = 1) && a.none && zay v
  else false := rfl
theorem ze1 {f : Fm} (h : f.forms = true) :
  (f.parts = [] /\ (f.op = 1 \/ f.op = 2 \/ f.op = 3)) \/ (∃ p : Fm, f = mkF 4 [p] /\ p.forms = true) \/ (∃ (o : Int) (p q : Fm), (o = 5 \/ o = 6 \/ o = 7) /\ f = mkF o [p, q] /\ p.forms = true /\ q.forms = true) ∨
   ∃ (o : Int) (v : Str) (p : Fm), (o = 8 \/ o = 9) /\ f = .mk o (.mk [] []) v [p] /\ p.forms = true := by
 rw [Fm.forms_eq, Bool.and_eq_true] at h
 obtain ⟨h1, h2⟩ := h
 obtain ⟨o, a, v, ps⟩ := f
 rw [zsx] at h1
 simp only [Fm.op, Fm.parts] at h2 ⊢
 by_cases h12 : (o == 1 || o == 2) = true
 ·rw [if_pos h12] at h1
  simp only [Bool.or_eq_true, beq_iff_eq, Bool.and_eq_true, decide_eq_true_eq, List.length_eq_zero_iff] at h12 h1
  exact Or.inl ⟨h1.1.1, by omega⟩
 rw [if_neg h12] at h1
 by_cases h3 : (o == 3) = true
 ·rw [if_pos h3] at h1
  simp only [beq_iff_eq, Bool.and_eq_true, decide_eq_true_eq, List.length_eq_zero_iff] at h3 h1
  exact Or.inl ⟨h1.1.1, by omega⟩
 rw [if_neg h3] at h1
 by_cases h4 : (o == 4) = true
 ·rw [if_pos h4] at h1
  simp only [beq_iff_eq, Bool.and_eq_true, decide_eq_true_eq] at h4 h1
  obtain ⟨⟨h5, h6⟩, h7⟩ := h1
  obtain ⟨x, rfl⟩ := len1 h5
  rw [h4, zs8 h6, h7]
  exact Or.inr (Or.inl ⟨x, rfl, by simpa using h2⟩)
 rw [if_neg h4] at h1
 by_cases h5 : (o == 5 || o == 6 || o == 7) = true
 ·rw [if_pos h5] at h1
  simp only [Bool.or_eq_true, beq_iff_eq, Bool.and_eq_true, decide_eq_true_eq] at h5 h1
  obtain ⟨⟨h6, h7⟩, h8⟩ := h1
  obtain ⟨x, y, rfl⟩ := len2 h6
  rw [zs8 h7, h8]
  simp only [List.all_cons, List.all_nil, Bool.and_true, Bool.and_eq_true] at h2
  exact Or.inr (Or.inr (Or.inl ⟨o, x, y, by omega, rfl, h2.1, h2.2⟩))
 rw [if_neg h5] at h1
 by_cases h6 : (o == 8 || o == 9) = true
 ·rw [if_pos h6] at h1
  simp only [Bool.or_eq_true, beq_iff_eq, Bool.and_eq_true, decide_eq_true_eq] at h6 h1
  obtain ⟨⟨h7, h8⟩, h9⟩ := h1
  obtain ⟨x, rfl⟩ := len1 h7
  rw [zs8 h8]
  exact Or.inr (Or.inr (Or.inr ⟨o, v, x, by omega, rfl, by simpa using h2⟩))
 ·rw [if_neg h6] at h1; cases h1
theorem qjh (o : Int) (ps : List Fm) : (mkF o ps).parts = ps := rfl
end Go.Proofs.YtemnhgmgeijkcaaGreat
