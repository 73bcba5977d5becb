/-
  The walk over plain data, and contracts of functions of the program and of its laws.
  Conditions: those that each theorem names.
-/
import Derived.Test.YtnkagnjiljjpcaaGreatQH5
import Derived.Sort.OwnSorted
import Derived.Sort.KeysCollected
import Derived.Sort.Walk0
import Derived.Laws.AppendOwn
import Derived.Test.YtnkagnjiljjpcaaGreatQH4
import Derived.Deep.LoopGhost
import Derived.Lib.SliceRun
import Derived.Shelf.Sort.Plain
import Derived.Shelf.Slices.In.SortNone
import Derived.Shelf.Slices.CompactS
import Derived.RangeFuncNested
import Derived.RangeFuncBound
import Derived.RangeFuncCalls
import Derived.TacticsInMore
import Derived.LoopNIn
import Derived.LoopIn
import Derived.Lib.Walk
import Derived.Lib.AppendZeros
namespace Go.Proofs.YtnkagnjiljjpcaaGreat
set_option linter.unusedSimpArgs false
set_option linter.unusedVariables false
set_option linter.unusedSectionVars false
set_option maxRecDepth 4000
open Go.RowKit Go.Sort Go.Proofs
variable {P : Program}
theorem zr7 {w : World} : ∀ {ss : List Str} {vs : List Value} {fps : List Nat}, zar w (ss.map T.str) vs fps -> vs = ss.map encStr /\ fps = [] /\ ∀ s ∈ ss, s.length <= zd2
 | [], vs, fps, h => ⟨h.1, h.2, by simp⟩
 | s :: ss, vs, fps, h => by
  obtain ⟨v, vs', f1, f2, rfl, rfl, h1, h2⟩ := h
  unfold zap at h1
  obtain ⟨rfl, k1, rfl⟩ := h1
  obtain ⟨rfl, rfl, k2⟩ := zr7 h2
  exact ⟨rfl, rfl, fun x hx => (List.mem_cons.1 hx).elim (fun e => e ▸ k1) (k2 x)⟩
theorem zs5 {w : World} : ∀ {ss : List Str}, (∀ s ∈ ss, s.length <= zd2) -> zar w (ss.map T.str) (ss.map encStr) []
 | [], _ => ⟨rfl, rfl⟩
 | s :: ss, h => ⟨_, _, [], [], rfl, rfl, by unfold zap; exact ⟨rfl, h s (by simp), rfl⟩, zs5 fun x hx => h x (by simp [hx])⟩
theorem zoj (ss : List Str) : (ss.map fun s => [T.str s]).flatten = ss.map T.str := by induction ss <;> simp_all
theorem zxb (ss : List Str) : lens 1 (ss.map fun s => [T.str s]) := fun r hr => by obtain ⟨s, _, rfl⟩ := List.mem_map.1 hr; rfl
abbrev zg1 (ss : List Str) : List Str := ss.mergeSort leB
theorem qh0 {f : FuncId} (hc : zaz P f) (hS : ∀ (blk off cap : Nat) (ss : List (List UInt8)) (w : World), Holds encStr w blk off ss.toArray -> blk < w.heap.size -> ss.length < 4611686018427387904 →
   Calls P f #[.slice (some ⟨blk, off, none⟩) ss.length cap] w fun e w' => e = .returned (.tuple #[]) /\ ∃ n os, w' = grow (putRow encStr (Sort.ahead w n) blk off (ss.mergeSort fun x y => decide (x <= y)).toArray) os)
  (hN : ∀ (p : Option Addr) (cap : Nat) (w : World), Calls P f #[.slice p 0 cap] w fun e w' => e = .returned (.tuple #[]) /\ w' = w) (ss : List Str) (hl : ss.length < 4611686018427387904) : IC P f [] (.one (zd3 ss)) [] (.one (zd3 (zg1 ss))) [] := by
 refine ⟨hc, fun w us1 v us2 fp tp h1 hg h2 hn => ?_⟩
 rw [show us1 = [] from h1, show us2 = [] from h2]
 obtain ⟨hg, _⟩ := hg
 unfold zap at hg
 obtain ⟨ao, cap, rfl, q1, q2, q3⟩ := hg
 rw [List.length_map] at q1 ⊢
 rcases q3 with ⟨rfl, rfl, q3, rfl⟩ | ⟨b, cells, ty, fps, rfl, rfl, q3, q4, q5⟩
 ·have hs : ss = [] := List.map_eq_nil_iff.1 q3
  subst hs
  refine (hN none 0 w).mono ?_
  rintro e w' ⟨rfl, rfl⟩
  refine ⟨[], [], [], rfl, ⟨_, [], [], [], [], [], rfl, rfl, rfl, ⟨?_, rfl⟩, rfl, rfl, rfl⟩, List.nodup_nil, by simp, Bk.refl _ _⟩
  unfold zap
  exact ⟨none, 0, by simp [zg1], by simp [zg1], by simp, Or.inl ⟨rfl, rfl, by simp [zg1], rfl⟩⟩
 ·obtain ⟨_, vs, k1, k2, k3⟩ := q5.vals
  rw [zoj] at k3
  obtain ⟨rfl, rfl, k4⟩ := zr7 k3
  have hsz : ss.length <= cells.size := by omega
  have ht : cells.toList.take ss.length = ss.map encStr := by
   apply List.ext_getElem?
   intro j
   by_cases hj : j < ss.length
   ·rw [List.getElem?_take_of_lt hj, Array.getElem?_toList]
    have := k2 j _ (List.getElem?_eq_getElem (by simpa using hj))
    rw [Nat.zero_add] at this
    rw [this, List.getElem?_eq_getElem (by simpa using hj)]
   ·rw [List.getElem?_take_eq_none (by omega), List.getElem?_eq_none (by simp; omega)]
  refine (hS b 0 cap ss w (holds_of_block q3 ht) (Array.getElem?_eq_some_iff.1 q3).1 hl).mono ?_
  rintro e w' ⟨rfl, n, os, rfl⟩
  have hgr := grownBy_sorted (w := w) (g := b) (n := n) (os := os) (ss.mergeSort fun x y => decide (x <= y)).toArray
  have hlen : (zg1 ss).length = ss.length := by simp [zg1]
  have htk := take_putCells cells (zg1 ss) (by omega)
  refine ⟨[], [b], [b], rfl, ⟨_, [], [b], [], [b], [], rfl, rfl, rfl, ⟨?_, rfl⟩, rfl, rfl, rfl⟩, by simp, fun x hx => Or.inl hx, ⟨hgr.os, hgr.tape, hgr.output, hgr.size, fun k hk => hgr.block k hk.1 fun e => hk.2 (by cases e; simp)⟩⟩
  unfold zap
  refine ⟨_, cap, by rw [List.length_map, hlen], by rw [List.length_map, hlen]; exact q1, q2, Or.inr ⟨b, _, ty, [], rfl, rfl, heap_sorted _ q3, by simp [putCells, q4], ?_⟩⟩
  refine zad.of_vals (zxb _) (by rw [zoj]; exact zs5 fun s hs => k4 s ((List.mergeSort_perm ss leB).mem_iff.1 hs)) fun j u hu => ?_
  rw [<- htk, List.getElem?_take] at hu
  split at hu
  ·simpa using hu
  ·cases hu
structure CloneOf (P : Program) (f : FuncId) (sz bytes : Nat) : Prop where
 call : zaz P f
 old : ∀ (ad : Addr) (n c : Nat) (news : List Value) (w : World), news.length = n * sz -> n <= maxLen -> n * bytes <= 140737488355328 -> (∀ j u, news[j]? = some u -> w.cell? (ad.add j) = some u) -> (∀ u ∈ news, u.oneCell' = true) →
  Calls P f #[.slice (some ad) n c] w fun e w' => ∃ t v', e = .returned v' /\ w'.ownsRow w.heap.size t sz v' n news /\ v' ≠ .slice none 0 0 /\ Below w.heap.size w w'
 none : ∀ (n c : Nat) (w : World), Calls P f #[.slice none n c] w fun e w' => e = .returned (.slice none 0 0) /\ w' = w
theorem zaj.valsA {w : World} {A : Nat -> Prop} {b sz : Nat} {rows : List (List T)} {o : Nat} (h : zaj w A b o sz rows) : ∃ vs, vs.length = rows.length * sz /\ (∀ j u, vs[j]? = some u -> w.cell? ⟨b, o + j, none⟩ = some u) /\ zac w A rows.flatten vs /\ lens sz rows := by
 obtain ⟨h1, vs, h2, h3, h4⟩ := h.vals
 exact ⟨vs, h2, h3, h4, h1⟩
theorem zwx {f : FuncId} {sz bytes : Nat} (h : CloneOf P f sz bytes) (rows : List (List T)) (hb : rows.length * bytes <= 140737488355328) {w : World} {A : Nat -> Prop} {v : Value} (h1 : zah w A (.sl sz rows) v) :
  Calls P f #[v] w fun e w' => ∃ v', e = .returned v' /\ Below w.heap.size w w' /\ ((v' = .slice none 0 0 /\ rows = []) \/ ∃ g cap cur ty vs, v' = .slice (some ⟨g, 0, none⟩) rows.length cap /\ w.heap.size <= g /\ w'.heap[g]? = some (.cells cur ty (0, 0)) /\ rows.length <= cap /\ cap <= zd2 /\ cur.size = cap * sz /\ cur.toList.take (rows.length * sz) = vs /\ zac w A rows.flatten vs /\ lens sz rows) := by
 unfold zah at h1
 obtain ⟨ao, cap, rfl, q1, q2, q3⟩ := h1
 cases ao with
 | none =>
  have hr : rows = [] := q3.resolve_right fun ⟨b, o, e, _⟩ => by cases e
  refine (h.none rows.length cap w).mono ?_
  rintro e w' ⟨rfl, rfl⟩
  exact ⟨_, rfl, Below.refl _ _, Or.inl ⟨rfl, hr⟩⟩
 | some ad =>
  have hx : ∃ news : List Value, news.length = rows.length * sz /\ (∀ j u, news[j]? = some u -> w.cell? (ad.add j) = some u) /\ zac w A rows.flatten news /\ lens sz rows := by
   rcases q3 with rfl | ⟨b', o', e, _, q4⟩
   ·exact ⟨[], by simp, fun j u hj => by simp at hj, by unfold zac; rfl, fun r hr => by simp at hr⟩
   ·cases e
    obtain ⟨news, k1, k2, k3, k4⟩ := q4.valsA
    exact ⟨news, k1, fun j u hj => by rw [zdy]; exact k2 j u hj, k3, k4⟩
  obtain ⟨news, k1, k2, k3, k4⟩ := hx
  refine (h.old ad rows.length cap news w k1 (by unfold maxLen; have := q2; unfold zd2 at this; omega) hb k2 k3.one).mono ?_
  rintro e w' ⟨t, v', rfl, ⟨o1, o2⟩, hn, hbel⟩
  refine ⟨v', rfl, hbel, Or.inr ?_⟩
  rcases o2 with ⟨e, _⟩ | ⟨g, cap', cur, e, p1, p2, p3, p4, p5, p6⟩
  ·exact absurd e hn
  ·exact ⟨g, cap', cur, t, news, e, p1, p2, p3, by unfold maxLen at p4; omega, p5, p6, k3, k4⟩
theorem qjc {cur : Array Value} {vs : List Value} {n : Nat} (h : cur.toList.take n = vs) : ∀ j u, vs[j]? = some u -> cur[0 + j]? = some u := fun j u hu => by
 rw [<- h, List.getElem?_take] at hu
 split at hu
 ·simpa using hu
 ·cases hu
theorem qfx {f : FuncId} {sz bytes : Nat} (h : CloneOf P f sz bytes) (rows : List (List T)) (hb : rows.length * bytes <= 140737488355328) (hf : ∀ c ∈ rows.flatten, c.flat = true) : FC P f [.one (.sl sz rows)] [.one (.sl sz rows)] := by
 refine ⟨h.call, fun w vs fp tp hv hn => ?_⟩
 obtain ⟨hr, rfl, rfl⟩ := zck hv
 obtain ⟨v, _, rfl, h1, rfl⟩ := hr
 refine (zwx h rows hb h1).mono ?_
 rintro e w' ⟨v', rfl, hbel, hh⟩
 have hB : Bk (fun k => k < w.heap.size /\ k ∉ ([] : List Nat)) w w' := ⟨hbel.os, hbel.tape, hbel.output, hbel.size, fun k hk => hbel.block k hk.1⟩
 rcases hh with ⟨rfl, hr⟩ | ⟨g, cap, cur, ty, vs, rfl, p1, p2, p3, p4, p5, p6, p7, p8⟩
 ·subst hr
  refine ⟨[_], [], [], rfl, ⟨_, [], [], [], [], [], rfl, rfl, rfl, ⟨?_, rfl⟩, rfl, rfl, rfl⟩, List.nodup_nil, by simp, hB⟩
  unfold zap
  exact ⟨Option.none, 0, rfl, Nat.le_refl _, by simp, Or.inl ⟨rfl, rfl, rfl, rfl⟩⟩
 ·refine ⟨[_], [g], [g], rfl, ⟨_, [], [g], [], [g], [], rfl, rfl, rfl, ⟨?_, rfl⟩, rfl, rfl, rfl⟩, by simp, fun b hb => by rw [List.mem_singleton.1 hb]; exact Or.inr p1, hB⟩
  unfold zap
  refine ⟨_, cap, rfl, p3, p4, Or.inr ⟨g, cur, ty, [], rfl, rfl, p2, p5, ?_⟩⟩
  have hown := zac.own p7 hf
  exact zad.of_vals p8 (zar.keep hown fun b hb => by simp at hb) fun j u hu => qjc p6 j u hu
theorem zmn (a b : Str) : Op.bytesLess a b = decide (a < b) := bytesLess_eq a b
def Srt (xs : List Str) : Prop := xs.Pairwise (· < ·)
theorem zju (a : Str) : ¬ a < a := List.lt_irrefl a
theorem zom {xs : List Str} (h : Srt xs) : xs.Nodup := List.Pairwise.imp (fun {a b} (h : a < b) (e : a = b) => zju b (e ▸ h)) h
theorem qkc {xs ys : List Str} (hx : Srt xs) (hy : Srt ys) (h : ∀ s, s ∈ xs ↔ s ∈ ys) : xs = ys := by
 have hp : xs.Perm ys := (List.perm_ext_iff_of_nodup (zom hx) (zom hy)).2 h
 exact hp.eq_of_pairwise (le := fun a b => a < b) (fun a b _ _ h1 h2 => absurd (List.lt_trans h1 h2) (zju a)) hx hy
theorem qgm {a b : Str} (h : a <= b) : a < b \/ a = b := by
 by_cases h1 : a < b
 ·exact Or.inl h1
 ·exact Or.inr (List.le_antisymm h (List.not_lt.1 h1))
theorem qa5 (xs : List Str) (s : Str) : s ∈ zg1 xs ↔ s ∈ xs := (List.mergeSort_perm xs leB).mem_iff
theorem qck {xs : List Str} (h : xs.Nodup) : Srt (zg1 xs) := by
 have tr : ∀ a b c : List UInt8, leB a b = true -> leB b c = true -> leB a c = true := fun a b c h1 h2 => by simp only [leB, decide_eq_true_eq] at *; exact List.le_trans h1 h2
 have to : ∀ a b : List UInt8, (leB a b || leB b a) = true := fun a b => by simp only [leB, Bool.or_eq_true, decide_eq_true_eq]; exact List.le_total a b
 have hs := List.pairwise_mergeSort tr to xs
 have hn : (zg1 xs).Nodup := (List.mergeSort_perm xs leB).nodup_iff.2 h
 refine (List.Pairwise.and hs hn).imp ?_
 rintro a b ⟨h1, h2⟩
 simp only [leB, decide_eq_true_eq] at h1
 exact (qgm h1).resolve_right h2
def zwq (l : List Str) (s : Str) : List Str := if (l.dropWhile fun x => Op.bytesLess x s).head? = some s then l else (l.takeWhile fun x => Op.bytesLess x s) ++ [s] ++ l.dropWhile fun x => Op.bytesLess x s
theorem qe3 (l : List Str) (s x : Str) : x ∈ zwq l s ↔ x = s \/ x ∈ l := by
 have e : l = (l.takeWhile fun x => Op.bytesLess x s) ++ l.dropWhile fun x => Op.bytesLess x s := (List.takeWhile_append_dropWhile).symm
 unfold zwq
 split
 ·rename_i h
  have : s ∈ l := by rw [e]; exact List.mem_append_right _ (List.mem_of_mem_head? h)
  exact ⟨Or.inr, fun h => h.elim (fun e => e ▸ this) id⟩
 ·conv => rhs; rw [e]
  simp only [List.mem_append, List.mem_singleton, or_assoc]
  constructor
  ·rintro (h | h | h)
   ·exact Or.inr (Or.inl h)
   ·exact Or.inl h
   ·exact Or.inr (Or.inr h)
  ·rintro (h | h | h)
   ·exact Or.inr (Or.inl h)
   ·exact Or.inl h
   ·exact Or.inr (Or.inr h)
theorem zj5 {l : List Str} {p : Str -> Bool} {x : Str} (h : (l.dropWhile p).head? = some x) : p x = false := by
 induction l with
 | nil => simp at h
 | cons a l ih =>
  rw [List.dropWhile_cons] at h
  split at h
  ·exact ih h
  ·rename_i hp; simp only [List.head?_cons, Option.some.injEq] at h; subst h; simpa using hp
theorem qe1 {l : List Str} (h : Srt l) (s : Str) : Srt (zwq l s) := by
 unfold zwq
 split
 ·exact h
 ·rename_i hne
  have e : (l.takeWhile fun x => Op.bytesLess x s) ++ (l.dropWhile fun x => Op.bytesLess x s) = l := List.takeWhile_append_dropWhile
  have h' := h
  rw [<- e] at h'
  obtain ⟨h1, h2, h3⟩ := List.pairwise_append.1 h'
  have ht : ∀ a ∈ l.takeWhile fun x => Op.bytesLess x s, a < s := fun a ha => by
   have := List.all_takeWhile (l := l) (p := fun x => Op.bytesLess x s)
   have := List.all_eq_true.1 this a ha
   rw [zmn] at this
   exact of_decide_eq_true this
  have hd : ∀ a ∈ l.dropWhile fun x => Op.bytesLess x s, s < a := fun a ha => by
   cases hD : l.dropWhile fun x => Op.bytesLess x s with
   | nil => rw [hD] at ha; simp at ha
   | cons y ys =>
    have hy := zj5 (l := l) (p := fun x => Op.bytesLess x s) (x := y) (by rw [hD]; rfl)
    have hys : s < y := by
     have h0 : ¬ y < s := by rw [zmn] at hy; exact of_decide_eq_false hy
     rcases qgm (List.not_lt.1 h0) with h | h
     ·exact h
     ·exact absurd (by rw [hD, h]; rfl) hne
    rw [hD] at ha h2
    rcases List.mem_cons.1 ha with rfl | ha
    ·exact hys
    ·exact List.lt_trans hys ((List.pairwise_cons.1 h2).1 a ha)
  rw [List.append_assoc]
  refine List.pairwise_append.2 ⟨h1, ?_, fun a ha b hb => ?_⟩
  ·exact List.pairwise_cons.2 ⟨hd, h2⟩
  ·rcases List.mem_cons.1 hb with rfl | hb
   ·exact ht a ha
   ·exact h3 a ha b hb
end Go.Proofs.YtnkagnjiljjpcaaGreat
namespace Go.Proofs.YtnkagnjiljjpcaaGreat
set_option linter.unusedSimpArgs false
set_option linter.unusedVariables false
set_option linter.unusedSectionVars false
set_option maxRecDepth 4000
open Go.RowKit
theorem Tm.wt_args {a : Tm} {n : Nat} (h : a.wt <= n) : a.args.length <= n /\ ∀ x ∈ a.args, x.wt <= n := by
 have e := Tm.wt_eq a
 refine ⟨by omega, fun x hx => ?_⟩
 have := zb1 Tm.wt a.args x hx
 omega
set_option maxRecDepth 10000 in
theorem zpr (xs : List Tm) (H : ∀ x ∈ xs, FC Tryz.prog 87 [tmD x] [tmD x]) (hs : xs.length <= 1048576) :
  FC Tryz.prog 110 [.one (tmS xs)] [.one (tmS xs)] := by
 by_cases h0 : xs = []
 ·subst h0
  refine zaq Tryz.call110 Tryz.func110 rfl (by kernel_rfl) (za4 (by kernel_rfl)) ?_
  simp -implicitDefEqProofs only [go_sem, Tryz.results110]
 ·have hp : ((xs.length : Int) == 0) = false := by
   have : 0 < xs.length := List.length_pos_iff.2 h0
   simp; omega
  refine zaq Tryz.call110 Tryz.func110 rfl (by kernel_rfl) (za4 (by kernel_rfl)) ?_
  simp -implicitDefEqProofs only [go_sem, Tryz.results110, hp]
  refine qhw (by simp -implicitDefEqProofs only [go_sem]; omega) ?_
  simp -implicitDefEqProofs only [go_sem]
  refine zag (fun k : Nat => hd [(12, vT (tmS xs)), (13, vI xs.length), (3, .one (.ow 352 0)), (14, vI k)] [] [(352, ⟨true, 2, (xs.take k).map tmC ++ List.replicate (xs.length - k) [T.str [], T.sl 2 []], 0, true⟩)]) (fun k => k <= xs.length) (fun k => xs.length - k) 0 (zab ?_) ?_ ?_
  ·simp -implicitDefEqProofs only [go_sem]
   simp
  ·simp
  ·intro k hk
   by_cases hlt : k < xs.length
   ·have hlen : ((xs.take k).map tmC ++ List.replicate (xs.length - k) [T.str [], T.sl 2 []]).length = xs.length := by simp; omega
    have hlt2 : k < k + (xs.length - k) := by omega
    simp -implicitDefEqProofs only [go_sem, List.length_map, zai, hlt, zaa]
    refine callF (H xs[k] (List.getElem_mem hlt)) (by simp -implicitDefEqProofs only [go_sem, zaa, hlen, hlt, List.length_append, List.length_map, List.length_take, List.length_replicate, Nat.min_eq_left hk, hlt2]) ?_
    simp -implicitDefEqProofs only [go_sem, zaa, hlen, hlt, List.length_append, List.length_map, List.length_take, List.length_replicate, Nat.min_eq_left hk, hlt2]
    refine zid (by simp -implicitDefEqProofs only [go_sem]; simp) ?_
    simp -implicitDefEqProofs only [go_sem]
    rw [zan (by omega)]
    refine ⟨k + 1, by omega, by omega, zab ?_⟩
    simp -implicitDefEqProofs only [go_sem]
    have hf := zih ((xs.take k).map tmC) xs.length k [T.str [], T.sl 2 []] (tmC xs[k]) (by simp; omega) hlt (by simp [zaa])
    simp only [zaa] at hf
    rw [hf, List.take_succ_eq_append_getElem hlt, List.map_append, List.map_singleton]
    simp only [zaa]
   ·simp -implicitDefEqProofs only [go_sem, List.length_map, hlt]
    simp [List.take_of_length_le (show xs.length <= k by omega), show xs.length - k = 0 by omega]
theorem zqc (a : Tm) (H : FC Tryz.prog 110 [.one (tmS a.args)] [.one (tmS a.args)]) : FC Tryz.prog 87 [tmD a] [tmD a] := by
 simp only [tmD, zaa a]
 refine zaq Tryz.call87 Tryz.func87 rfl (by kernel_rfl) (za4 (by kernel_rfl)) ?_
 simp -implicitDefEqProofs only [go_sem, Tryz.results87]
 refine drawn (by kernel_rfl) ?_
 simp -implicitDefEqProofs only [go_sem]
 refine zax (H) (by simp -implicitDefEqProofs only [go_sem]) ?_
 simp -implicitDefEqProofs only [go_sem]
 kernel_rfl
theorem qei (a : Tm) (H : ∀ x ∈ a.args, FC Tryz.prog 33 [tmD x] [tmD x]) (hs : a.args.length <= 1048576) : FC Tryz.prog 33 [tmD a] [tmD a] := by
 simp only [tmD, zaa a]
 refine zaq Tryz.call33 Tryz.func33 rfl (by kernel_rfl) (za4 (by kernel_rfl)) ?_
 simp -implicitDefEqProofs only [go_sem, Tryz.results33]
 refine zag (fun k : Nat => hd [(1, .one (.bx 1 0)), (2, .one (.bx 2 0)), (3, .one (.bx 3 0)), (4, vI k)] [(1, [.t (.str a.name), .t (tmS a.args)]), (2, [.t (.str []), .nl 2]), (3, [.t (.str a.name), .ow 3000 0])] [(3000, ⟨true, 2, (a.args.take k).map tmC, 0, true⟩)]) (fun k => k <= a.args.length) (fun k => a.args.length - k) 0 (zab ?_) ?_ ?_
 ·simp -implicitDefEqProofs only [go_sem]
 ·simp
 ·intro k hk
  by_cases hlt : k < a.args.length
  ·simp -implicitDefEqProofs only [go_sem, hlt]
   refine drawn (by kernel_rfl) ?_
   have hmin : min k a.args.length <= 4294967295 := by omega
   simp -implicitDefEqProofs only [go_sem, zai, hlt, zaa]
   refine zax (H a.args[k] (List.getElem_mem hlt)) (by simp -implicitDefEqProofs only [go_sem, zaa]) ?_
   simp -implicitDefEqProofs only [go_sem, zaa]
   refine zbh (by simp -implicitDefEqProofs only [go_sem]) ?_
   simp -implicitDefEqProofs only [go_sem]
   refine zhq true (by simp -implicitDefEqProofs only [go_sem, ne_eq, List.length_map, List.length_take, hmin]) ?_
   simp -implicitDefEqProofs only [go_sem, ne_eq, List.length_map, List.length_take, hmin]
   refine ⟨by kernel_rfl, k + 1, hlt, by omega, zab ?_⟩
   simp -implicitDefEqProofs only [go_sem]
   rw [zan (by omega), List.take_succ_eq_append_getElem hlt, List.map_append, List.map_singleton]
   simp only [zaa]
   trivial
  ·have ht : a.args.take k = a.args := List.take_of_length_le (by omega)
   simp -implicitDefEqProofs only [go_sem, hlt, ht]
theorem zkj : ∀ a : Tm, a.wt <= 1048576 -> FC Tryz.prog 87 [tmD a] [tmD a] :=
 za7 fun n xs ih hs => by
  obtain ⟨h1, h2⟩ := Tm.wt_args hs
  exact zqc (.mk n xs) (zpr xs (fun x hx => ih x hx (h2 x hx)) h1)
theorem zq1 : ∀ a : Tm, a.wt <= 1048576 -> FC Tryz.prog 33 [tmD a] [tmD a] :=
 za7 fun n xs ih hs => by
  obtain ⟨h1, h2⟩ := Tm.wt_args hs
  exact qei (.mk n xs) (fun x hx => ih x hx (h2 x hx)) h1
end Go.Proofs.YtnkagnjiljjpcaaGreat
namespace Go.Proofs.YtnkagnjiljjpcaaGreat
set_option linter.unusedSimpArgs false
set_option linter.unusedVariables false
set_option linter.unusedSectionVars false
set_option maxRecDepth 4000
open Go.RowKit
theorem qj5 {P : Program} {t : TypeId} {n b : Nat} {z : List C} (h1 : za8 P t = some n) (h2 : zct P t = some b) (h3 : zch P t = some z) (h4 : z.length = n) : ∃ i0 zv, P.info? t = some i0 /\ i0.zero = some zv /\ zv.cells.size = n /\ i0.size = n /\ i0.bytes = b := by
 unfold za8 at h1
 unfold zct at h2
 unfold zch at h3
 cases hi : P.info? t with
 | none => rw [hi] at h1; cases h1
 | some i =>
  rw [hi] at h1 h2 h3
  simp only [Option.map_some, Option.some.injEq] at h1 h2
  simp only [Option.bind_some] at h3
  cases hz : i.zero with
  | none => rw [hz] at h3; cases h3
  | some zv =>
   rw [hz] at h3
   simp only [Option.map_some, Option.some.injEq] at h3
   refine ⟨i, zv, rfl, hz, ?_, h1, h2⟩
   rw [<- h4, <- h3]; simp
end Go.Proofs.YtnkagnjiljjpcaaGreat
namespace Go.Proofs.YtnkagnjiljjpcaaGreat
set_option linter.unusedSimpArgs false
set_option linter.unusedVariables false
set_option linter.unusedSectionVars false
set_option maxRecDepth 4000
open Go.RowKit
def zit (w : World) (A : Nat -> Prop) (r : List T) (t : Tm) : Prop := ∃ ao l c, r = [.str t.name, .vs ao l c] /\ zah w A (tmS t.args) (.slice ao l c)
def zbn (w : World) (A : Nat -> Prop) : List (List T) -> List Tm -> Prop
 | [], l => l = []
 | r :: rs, l => ∃ t ts, l = t :: ts /\ zit w A r t /\ zbn w A rs ts
theorem zit.keep {w w' : World} {A A' : Nat -> Prop} (hs : ∀ b, A b -> w'.heap[b]? = w.heap[b]?) (ha : ∀ b, A b -> A' b) {r : List T} {t : Tm} (h : zit w A r t) : zit w' A' r t := by
 obtain ⟨ao, l, c, h1, h2⟩ := h
 exact ⟨ao, l, c, h1, zah.keep hs ha _ _ h2⟩
theorem zbn.keep {w w' : World} {A A' : Nat -> Prop} (hs : ∀ b, A b -> w'.heap[b]? = w.heap[b]?) (ha : ∀ b, A b -> A' b) : ∀ {rs : List (List T)} {ts : List Tm}, zbn w A rs ts -> zbn w' A' rs ts
 | [], _, h => h
 | _ :: _, _, h => by obtain ⟨t, ts, rfl, h1, h2⟩ := h; exact ⟨t, ts, rfl, h1.keep hs ha, zbn.keep hs ha h2⟩
theorem zbn.len {w : World} {A : Nat -> Prop} : ∀ {rs : List (List T)} {ts : List Tm}, zbn w A rs ts -> rs.length = ts.length
 | [], _, h => by rw [show _ = [] from h]; rfl
 | _ :: _, _, h => by obtain ⟨t, ts, rfl, h1, h2⟩ := h; simp [zbn.len h2]
theorem zbn.at {w : World} {A : Nat -> Prop} : ∀ {rs : List (List T)} {ts : List Tm}, zbn w A rs ts -> ∀ i (h1 : i < rs.length) (h2 : i < ts.length), zit w A rs[i] ts[i]
 | [], _, _, i, h1, _ => by simp at h1
 | _ :: _, _, h, i, h1, h2 => by
  obtain ⟨t, ts, rfl, k1, k2⟩ := h
  cases i with
  | zero => exact k1
  | succ i => exact zbn.at k2 i (by simpa using h1) (by simpa using h2)
theorem zbn.snoc {w : World} {A : Nat -> Prop} {r : List T} {t : Tm} (k : zit w A r t) : ∀ {rs : List (List T)} {ts : List Tm}, zbn w A rs ts -> zbn w A (rs ++ [r]) (ts ++ [t])
 | [], _, h => by rw [show _ = [] from h]; exact ⟨t, [], rfl, k, rfl⟩
 | _ :: _, _, h => by obtain ⟨t', ts, rfl, h1, h2⟩ := h; exact ⟨t', _, rfl, h1, zbn.snoc k h2⟩
theorem zbn.flat {w : World} {A : Nat -> Prop} : ∀ {rs : List (List T)} {ts : List Tm}, zbn w A rs ts -> ∀ c ∈ rs.flatten, c.flat = true
 | [], _, _, c, hc => by simp at hc
 | _ :: _, _, h, c, hc => by
  obtain ⟨t', ts, rfl, ⟨ao, l, cc, rfl, _⟩, h2⟩ := h
  simp only [List.flatten_cons, List.cons_append, List.nil_append, List.mem_cons] at hc
  rcases hc with rfl | rfl | hc
  ·rfl
  ·rfl
  ·exact zbn.flat h2 c hc
theorem zos {w : World} {A : Nat -> Prop} {b : Nat} : ∀ (l : List Tm) (o : Nat), zaj w A b o 2 (l.map tmC) -> ∃ fl, zaj w A b o 2 fl /\ zbn w A fl l
 | [], _, _ => ⟨[], by unfold zaj; trivial, rfl⟩
 | t :: l, o, h => by
  rw [List.map_cons, zaj] at h
  obtain ⟨_, h2, h3⟩ := h
  obtain ⟨fl, k1, k2⟩ := zos l (o + 2) h3
  rw [zaa] at h2
  simp only [za5] at h2
  obtain ⟨⟨v1, c1, r1⟩, ⟨v2, c2, r2⟩, _⟩ := h2
  have r2' := r2
  unfold zah at r2'
  obtain ⟨ao, cap, rfl, _⟩ := r2'
  refine ⟨[.str t.name, .vs ao _ cap] :: fl, ?_, t, l, rfl, ⟨ao, _, cap, rfl, r2⟩, k2⟩
  rw [zaj]
  refine ⟨rfl, ?_, k1⟩
  simp only [za5]
  exact ⟨⟨v1, c1, r1⟩, ⟨_, c2, by unfold zah; rfl⟩, trivial⟩
theorem zpb {w : World} {A A' A'' : Nat -> Prop} (h1 : ∀ b, A b -> A'' b) (h2 : ∀ b, A' b -> A'' b) {b : Nat} : ∀ (fl : List (List T)) (l : List Tm) (o : Nat), zaj w A b o 2 fl -> zbn w A' fl l -> zaj w A'' b o 2 (l.map tmC)
 | [], l, o, _, h => by rw [show l = [] from h, List.map_nil, zaj]; trivial
 | r :: fl, l, o, h, k => by
  obtain ⟨t, ts, rfl, ⟨ao, n, c, rfl, k1⟩, k2⟩ := k
  rw [zaj] at h
  obtain ⟨_, h4, h5⟩ := h
  rw [List.map_cons, zaj]
  refine ⟨by rw [zaa]; rfl, ?_, zpb h1 h2 fl ts (o + 2) h5 k2⟩
  rw [zaa]
  simp only [za5] at h4 ⊢
  obtain ⟨⟨v1, c1, r1⟩, ⟨v2, c2, r2⟩, _⟩ := h4
  unfold zah at r2
  subst r2
  exact ⟨⟨v1, c1, zah.keep (fun _ _ => rfl) h1 _ _ r1⟩, ⟨_, c2, zah.keep (fun _ _ => rfl) h2 _ _ k1⟩, trivial⟩
theorem zah.flatL {w : World} {A : Nat -> Prop} {l : List Tm} {v : Value} (h : zah w A (tmS l) v) : ∃ fl, zah w A (.sl 2 fl) v /\ zbn w A fl l := by
 unfold zah at h
 obtain ⟨ao, cap, rfl, h1, h2, h3⟩ := h
 rw [List.length_map] at h1
 rcases h3 with h3 | ⟨b, o, rfl, h4, h5⟩
 ·have e : l = [] := List.map_eq_nil_iff.1 h3
  subst e
  exact ⟨[], by unfold zah; exact ⟨ao, cap, rfl, Nat.zero_le _, h2, Or.inl rfl⟩, rfl⟩
 ·obtain ⟨fl, k1, k2⟩ := zos l o h5
  refine ⟨fl, ?_, k2⟩
  unfold zah
  exact ⟨_, cap, by rw [k2.len, List.length_map], by rw [k2.len]; exact h1, h2, Or.inr ⟨b, o, rfl, h4, k1⟩⟩
theorem zah.deepL {w : World} {A A' A'' : Nat -> Prop} (h1 : ∀ b, A b -> A'' b) (h2 : ∀ b, A' b -> A'' b) {fl : List (List T)} {l : List Tm} {v : Value} (h : zah w A (.sl 2 fl) v) (k : zbn w A' fl l) : zah w A'' (tmS l) v := by
 unfold zah at h ⊢
 obtain ⟨ao, cap, rfl, q1, q2, q3⟩ := h
 have e := k.len
 refine ⟨ao, cap, by rw [List.length_map, e], by rw [List.length_map, <- e]; exact q1, q2, ?_⟩
 rcases q3 with rfl | ⟨b, o, rfl, h4, h5⟩
 ·have : l = [] := k
  subst this
  exact Or.inl rfl
 ·exact Or.inr ⟨b, o, rfl, h1 b h4, zpb h1 h2 fl l o h5 k⟩
set_option maxHeartbeats 1000000 in
theorem zyb : CloneOf Tryz.prog 128 2 40 := by
 have t22 := Tryz.underlying24
 have q22 : ∀ (w : World) (a : Option Addr) (n c n' c' : Nat), (binOp .eql 24 (.slice a n c) (.slice none n' c')).run Tryz.prog w = .ok (.bool a.isNone) w := fun w a n c n' c' => Lib.run_eql_slice_nil w _ _ a n c n' c' t22
 have u22 : ∀ w, Sem.run Tryz.prog (underlying 24) w = .ok (TypeDesc.slice 58) w := run_underlying t22
 refine ⟨Tryz.call128, fun ad n c news w hl hn hbig hc h1 => ?_, fun n c w => ?_⟩
 ·have A : Aside (∀ j u, news[j]? = some u -> w.cell? (ad.add j) = some u) := hc
  clear hc
  obtain ⟨i0, z, hi, hz0, hzs, hz1, hz2⟩ := qj5 (P := Tryz.prog) (t := 58) (n := 2) (b := 40) (z := [.t (.str []), .nl 2]) (by kernel_rfl) (by kernel_rfl) (by kernel_rfl) rfl
  go_enter Tryz.func128, Tryz.ntmps128
  go_wp2_with (at_builtin; refine wpList_append_own _ rfl _ _ 24 rfl w.heap.size 58 i0 z 2 40 t22 hi hz0 hz1 hz2 hzs (by decide) _ _ _ rfl (World.ownsRow_made w #[] 0 (Nat.le_refl _) (Nat.zero_le _) (by simp)) ad n c news rfl ?qc1 ?qc2 ?qc3 ?qc4 ?qc5 ?qc6 ?_)
  case qc1 => exact hl
  case qc2 =>
   intro j u hj
   exact Lib.cell?_alloc_some _ (A.out j u hj)
  case qc3 => exact h1
  case qc4 => rw [Nat.zero_add]; exact hn
  case qc5 => rw [Nat.zero_add]; exact hbig
  case qc6 => simp
  intro v' w1 hown hgrow hnil
  go_wp2
  go_ret
  refine ⟨_, v', rfl, by simpa using hown, hnil, ?_⟩
  exact ((Below.refl _ w).alloc (Nat.le_refl _) _).grown hgrow (by simp) (by intro k hk; simp [Value.ownBlock] at hk; omega)
 ·go_enter Tryz.func128, Tryz.ntmps128
  go_wp2
  go_ret
  exact ⟨rfl, rfl⟩
theorem qaz (fl : List (List T)) (hs : fl.length <= 1099511627776) (hf : ∀ c ∈ fl.flatten, c.flat = true) : FC Tryz.prog 128 [.one (.sl 2 fl)] [.one (.sl 2 fl)] :=
 qfx zyb _ (by omega) hf
end Go.Proofs.YtnkagnjiljjpcaaGreat
namespace Go.Proofs
open Go.Shelf
set_option maxRecDepth 100000
def Tryz.lays190_ren : Go.Shelf.Ren := ⟨fun | 190 => 126 | 125 => 89 | 258 => 171 | 128 => 146 | 129 => 147 | 302 => 192 | 303 => 193 | 304 => 194 | 305 => 195 | 306 => 196 | 307 => 197 | 308 => 198 | 309 => 199 | 310 => 200 | 333 => 204 | 329 => 180 | 330 => 181 | 334 => 205 | 335 => 206 | 336 => 149 | 344 => 216 | n => n, fun | 31 => 99 | 9 => 9 | 3 => 3 | 46 => 111 | 0 => 0 | 51 => 157 | 53 => 159 | 4 => 4 | 183 => 150 | 182 => 149 | 131 => 154 | 5 => 5 | 218 => 180 | 222 => 184 | 228 => 198 | 229 => 199 | n => n, fun | n => n⟩
theorem Tryz.lays190 : Go.Proofs.Lays.n190 Tryz.prog Tryz.lays190_ren := {
 mixed := by kernel_rfl
 f125 := Tryz.func89.trans (congrArg some (by kernel_rfl))
 f128 := Tryz.func146.trans (congrArg some (by kernel_rfl))
 f129 := Tryz.func147.trans (congrArg some (by kernel_rfl))
 f190 := Tryz.func126.trans (congrArg some (by kernel_rfl))
 f258 := Tryz.func171.trans (congrArg some (by kernel_rfl))
 f302 := Tryz.func192.trans (congrArg some (by kernel_rfl))
 f303 := Tryz.func193.trans (congrArg some (by kernel_rfl))
 f304 := Tryz.func194.trans (congrArg some (by kernel_rfl))
 f305 := Tryz.func195.trans (congrArg some (by kernel_rfl))
 f306 := Tryz.func196.trans (congrArg some (by kernel_rfl))
 f307 := Tryz.func197.trans (congrArg some (by kernel_rfl))
 f308 := Tryz.func198.trans (congrArg some (by kernel_rfl))
 f309 := Tryz.func199.trans (congrArg some (by kernel_rfl))
 f310 := Tryz.func200.trans (congrArg some (by kernel_rfl))
 f329 := Tryz.func180.trans (congrArg some (by kernel_rfl))
 f330 := Tryz.func181.trans (congrArg some (by kernel_rfl))
 f333 := Tryz.func204.trans (congrArg some (by kernel_rfl))
 f334 := Tryz.func205.trans (congrArg some (by kernel_rfl))
 f335 := Tryz.func206.trans (congrArg some (by kernel_rfl))
 f336 := Tryz.func149.trans (congrArg some (by kernel_rfl))
 f344 := Tryz.func216.trans (congrArg some (by kernel_rfl))
 t0 := Tryz.underlying0
 a0 := Tryz.isAgg0
 z0 := Tryz.sizeOf0
 v0 := Tryz.zeroValue0
 t3 := Tryz.underlying3
 a3 := Tryz.isAgg3
 z3 := Tryz.sizeOf3
 v3 := Tryz.zeroValue3
 t4 := Tryz.underlying4
 a4 := Tryz.isAgg4
 z4 := Tryz.sizeOf4
 v4 := Tryz.zeroValue4
 t5 := Tryz.underlying5
 a5 := Tryz.isAgg5
 z5 := Tryz.sizeOf5
 v5 := Tryz.zeroValue5
 t9 := Tryz.underlying9
 a9 := Tryz.isAgg9
 z9 := Tryz.sizeOf9
 v9 := Tryz.zeroValue9
 t31 := Tryz.underlying99
 a31 := Tryz.isAgg99
 z31 := Tryz.sizeOf99
 v31 := Tryz.zeroValue99
 t46 := Tryz.underlying111
 a46 := Tryz.isAgg111
 z46 := Tryz.sizeOf111
 v46 := Tryz.zeroValue111
 t51 := Tryz.underlying157
 a51 := Tryz.isAgg157
 z51 := Tryz.sizeOf157
 v51 := Tryz.zeroValue157
 t53 := Tryz.underlying159
 a53 := Tryz.isAgg159
 z53 := Tryz.sizeOf159
 v53 := Tryz.zeroValue159
 t131 := Tryz.underlying154
 a131 := Tryz.isAgg154
 z131 := Tryz.sizeOf154
 v131 := Tryz.zeroValue154
 t182 := Tryz.underlying149
 a182 := Tryz.isAgg149
 z182 := Tryz.sizeOf149
 v182 := Tryz.zeroValue149
 t183 := Tryz.underlying150
 a183 := Tryz.isAgg150
 z183 := Tryz.sizeOf150
 v183 := Tryz.zeroValue150
 t218 := Tryz.underlying180
 a218 := Tryz.isAgg180
 z218 := Tryz.sizeOf180
 v218 := Tryz.zeroValue180
 t222 := Tryz.underlying184
 a222 := Tryz.isAgg184
 z222 := Tryz.sizeOf184
 v222 := Tryz.zeroValue184
 t228 := Tryz.underlying198
 a228 := Tryz.isAgg198
 z228 := Tryz.sizeOf198
 v228 := Tryz.zeroValue198
 t229 := Tryz.underlying199
 a229 := Tryz.isAgg199
 z229 := Tryz.sizeOf199
 v229 := Tryz.zeroValue199 }
end Go.Proofs
namespace Go.Proofs.YtnkagnjiljjpcaaGreat
set_option linter.unusedSimpArgs false
set_option linter.unusedVariables false
set_option linter.unusedSectionVars false
set_option maxRecDepth 4000
open Go.RowKit
theorem qa0 (ss : List Str) (hl : ss.length <= 1099511627776) : IC Tryz.prog 126 [] (.one (zd3 ss)) [] (.one (zd3 (zg1 ss))) [] :=
 qh0 Tryz.call126 (fun blk off cap ss w h1 h2 h3 => Any.slices_Sort_string Tryz.lays190 blk off cap ss w h1 h2 h3) (fun p cap w => Any.slices_Sort_string_none Tryz.lays190 p cap w) ss (by omega)
theorem ztn {α : Type} {p : α -> Bool} : ∀ {l : List α} {k : Nat}, k <= l.length -> (∀ x ∈ l.take k, p x = true) -> (∀ h : k < l.length, p l[k] = false) -> l.takeWhile p = l.take k /\ l.dropWhile p = l.drop k
 | [], k, hk, _, _ => by simp
 | a :: l, 0, hk, _, h2 => by have := h2 (by simp); simp only [List.getElem_cons_zero] at this; simp [this]
 | a :: l, k + 1, hk, h1, h2 => by
  have ha := h1 a (by simp)
  obtain ⟨e1, e2⟩ := ztn (l := l) (k := k) (by simpa using hk) (fun x hx => h1 x (by simp [hx])) (fun h => h2 (by simpa using h))
  simp [ha, e1, e2]
theorem zyv {l : List Str} {s : Str} {k : Nat} (hk : k <= l.length) (h1 : ∀ x ∈ l.take k, Op.bytesLess x s = true) (h2 : ∀ h : k < l.length, Op.bytesLess l[k] s = false) : zwq l s = if (l.drop k).head? = some s then l else l.take k ++ [s] ++ l.drop k := by
 obtain ⟨e1, e2⟩ := ztn (p := fun x => Op.bytesLess x s) hk h1 h2
 unfold zwq
 rw [e1, e2]
theorem flR_of {rows : List (List T)} (h : ∀ r ∈ rows, r.all T.flat = true) : flR rows = true := by
 induction rows with
 | nil => rfl
 | cons r rs ih => unfold flR; rw [h r (by simp), ih fun r hr => h r (by simp [hr])]; rfl
theorem zgk (l : List Str) : flR (l.map fun s => [T.str s]) = true := flR_of fun r hr => by obtain ⟨s, _, rfl⟩ := List.mem_map.1 hr; rfl
theorem zbo (k : Nat) (l : List Str) : flR ((l.map fun s => [T.str s]).take k) = true := by rw [<- List.map_take]; exact zgk _
theorem zbm (k : Nat) (l : List Str) : flR ((l.map fun s => [T.str s]).drop k) = true := by rw [<- List.map_drop]; exact zgk _
theorem zbp {α β : Type} (f : α -> β) (l : List α) : (l.map f).take l.length = l.map f := List.take_of_length_le (by simp)
theorem qki (l : List Str) (s : Str) (hl : l.length <= 2147483648) : GC Tryz.prog 178 [(true, .one (zd3 l)), (false, sD s)] [.one (zd3 (zwq l s))] := by
 refine GC_of Tryz.call178 Tryz.func178 rfl (by kernel_rfl) (by simp only [List.length_cons, List.length_nil, Tryz.ntmps178]; omega) (by simp [zbz, T.isPin]) ?_
 simp -implicitDefEqProofs only [go_sem, Tryz.results178]
 refine zag (fun k : Nat => hd [(0, .one (.ow 0 0)), (1, vT (.str s)), (5, vI k)] [] [(0, ⟨true, 1, l.map fun s => [.str s], 0, true⟩)]) (fun k => k <= l.length /\ ∀ x ∈ l.take k, Op.bytesLess x s = true) (fun k => l.length - k) 0 (zab ?_) ?_ ?_
 ·simp -implicitDefEqProofs only [go_sem]
 ·simp
 ·intro k ⟨hk, hr⟩
  have hm1 : min k l.length <= 4294967296 := by omega
  have hm2 : min k l.length <= 4294967295 := by omega
  have hm3 : min k l.length + 1 + (l.length - k) <= 4294967296 := by omega
  by_cases hlt : k < l.length
  ·have hnx : ∀ {b}, Op.bytesLess l[k] s = b -> b = true -> ∀ x ∈ l.take (k + 1), Op.bytesLess x s = true := fun {b} e hb x hx => by
    rw [List.take_succ_eq_append_getElem hlt] at hx
    rcases List.mem_append.1 hx with hx | hx
    ·exact hr x hx
    ·rw [List.mem_singleton.1 hx, e, hb]
   simp -implicitDefEqProofs only [go_sem, zai, hlt]
   refine ⟨fun h => ⟨k + 1, ⟨hlt, hnx rfl h⟩, by omega, zab (by simp -implicitDefEqProofs only [go_sem]; rw [zan (by omega)])⟩, fun h => ?_⟩
   have hp := zyv hk hr (fun _ => h)
   have hh : (l.drop k).head? = some l[k] := by rw [List.head?_drop, List.getElem?_eq_getElem hlt]
   refine ⟨fun h2 => ?_, fun h2 => ?_⟩
   ·rw [hp, if_pos (by rw [hh]; simpa using h2)]
   ·rw [if_neg (by rw [hh]; simpa using h2)] at hp
    refine frzD 0 ?_
    simp -implicitDefEqProofs only [go_sem]
    refine drawn (by kernel_rfl) ?_
    simp -implicitDefEqProofs only [go_sem, hk]
    refine zbh (by simp -implicitDefEqProofs only [go_sem, hk]) ?_
    simp -implicitDefEqProofs only [go_sem, hk]
    refine zhq true (by simp -implicitDefEqProofs only [go_sem, hk, ne_eq, Nat.zero_add, hm1, hm2, hm3, zbo, zbm, zbp, List.length_drop, List.length_take, List.length_append, List.length_map]) ?_
    simp -implicitDefEqProofs only [go_sem, hk, ne_eq, Nat.zero_add, hm1, hm2, hm3, zbo, zbm, zbp, List.length_drop, List.length_take, List.length_append, List.length_map]
    refine zbh (by simp -implicitDefEqProofs only [go_sem, hk]) ?_
    simp -implicitDefEqProofs only [go_sem, hk]
    refine zhq true (by simp -implicitDefEqProofs only [go_sem, hk, ne_eq, Nat.zero_add, hm1, hm2, hm3, zbo, zbm, zbp, List.length_drop, List.length_take, List.length_append, List.length_map]) ?_
    simp -implicitDefEqProofs only [go_sem, hk, ne_eq, Nat.zero_add, hm1, hm2, hm3, zbo, zbm, zbp, List.length_drop, List.length_take, List.length_append, List.length_map]
    refine zhq true (by simp -implicitDefEqProofs only [go_sem, hk, ne_eq, Nat.zero_add, hm1, hm2, hm3, zbo, zbm, zbp, List.length_drop, List.length_take, List.length_append, List.length_map]) ?_
    simp -implicitDefEqProofs only [go_sem, hk, ne_eq, Nat.zero_add, hm1, hm2, hm3, zbo, zbm, zbp, List.length_drop, List.length_take, List.length_append, List.length_map]
    refine ⟨by kernel_rfl, ?_⟩
    rw [hp]; simp
  ·simp -implicitDefEqProofs only [go_sem, hlt]
   have hp := zyv hk hr (fun h => absurd h hlt)
   rw [if_neg (by rw [List.drop_of_length_le (by omega)]; simp)] at hp
   refine frzD 0 ?_
   simp -implicitDefEqProofs only [go_sem]
   refine drawn (by kernel_rfl) ?_
   simp -implicitDefEqProofs only [go_sem, hk]
   refine zbh (by simp -implicitDefEqProofs only [go_sem, hk]) ?_
   simp -implicitDefEqProofs only [go_sem, hk]
   refine zhq true (by simp -implicitDefEqProofs only [go_sem, hk, ne_eq, Nat.zero_add, hm1, hm2, hm3, zbo, zbm, zbp, List.length_drop, List.length_take, List.length_append, List.length_map]) ?_
   simp -implicitDefEqProofs only [go_sem, hk, ne_eq, Nat.zero_add, hm1, hm2, hm3, zbo, zbm, zbp, List.length_drop, List.length_take, List.length_append, List.length_map]
   refine zbh (by simp -implicitDefEqProofs only [go_sem, hk]) ?_
   simp -implicitDefEqProofs only [go_sem, hk]
   refine zhq true (by simp -implicitDefEqProofs only [go_sem, hk, ne_eq, Nat.zero_add, hm1, hm2, hm3, zbo, zbm, zbp, List.length_drop, List.length_take, List.length_append, List.length_map]) ?_
   simp -implicitDefEqProofs only [go_sem, hk, ne_eq, Nat.zero_add, hm1, hm2, hm3, zbo, zbm, zbp, List.length_drop, List.length_take, List.length_append, List.length_map]
   refine zhq true (by simp -implicitDefEqProofs only [go_sem, hk, ne_eq, Nat.zero_add, hm1, hm2, hm3, zbo, zbm, zbp, List.length_drop, List.length_take, List.length_append, List.length_map]) ?_
   simp -implicitDefEqProofs only [go_sem, hk, ne_eq, Nat.zero_add, hm1, hm2, hm3, zbo, zbm, zbp, List.length_drop, List.length_take, List.length_append, List.length_map]
   refine ⟨by kernel_rfl, ?_⟩
   rw [hp]; simp
end Go.Proofs.YtnkagnjiljjpcaaGreat
namespace Go.Proofs.YtnkagnjiljjpcaaGreat
set_option linter.unusedSimpArgs false
set_option linter.unusedVariables false
set_option linter.unusedSectionVars false
set_option maxRecDepth 4000
open Go.RowKit
theorem qkj {b : UInt8} (h1 : decide ((b.toNat : Int) < 65) = false) (h2 : decide ((90 : Int) < b.toNat) = false) : zhn b = true := by
 simp [zhn] at *; omega
theorem qc9 {b : UInt8} (h1 : decide ((b.toNat : Int) < 65) = true) : zhn b = false := by
 simp [zhn] at *; omega
theorem qdc {b : UInt8} (h2 : decide ((90 : Int) < b.toNat) = true) : zhn b = false := by
 simp [zhn] at *; omega
theorem qcx {b : UInt8} (h1 : decide ((b.toNat : Int) < 97) = false) (h2 : decide ((122 : Int) < b.toNat) = false) : zeg b = true := by
 simp [zeg] at *; omega
theorem zxm {b : UInt8} (h1 : decide ((b.toNat : Int) < 97) = true) : zeg b = false := by
 simp [zeg] at *; omega
theorem zyo {b : UInt8} (h2 : decide ((122 : Int) < b.toNat) = true) : zeg b = false := by
 simp [zeg] at *; omega
theorem zsx {s : Str} (h : 0 < s.length) : zrt s = (zhn (s.getD 0 0) && (s.drop 1).all zl5) := by
 cases s
 ·exact absurd h (by simp)
 ·rfl
theorem zop {s : Str} (h : 0 < s.length) : zix s = (zeg (s.getD 0 0) && (s.drop 1).all zmo) := by
 cases s
 ·exact absurd h (by simp)
 ·rfl
theorem zik (s : Str) : FC Tryz.prog 153 [sD s] [bD (zay s)] := by
 refine zcn (fun hw => ?_) Tryz.call153
 have hl : s.length <= 9223372036854775807 := by simpa [zfj, wfT] using hw.1
 refine zaq Tryz.call153 Tryz.func153 rfl (by kernel_rfl) (za4 (by kernel_rfl)) ?_
 simp -implicitDefEqProofs only [go_sem, Tryz.results153]
 refine callF (qht s.length 1 4) (by simp -implicitDefEqProofs only [go_sem]) ?_
 simp -implicitDefEqProofs only [go_sem]
 by_cases hb : inB s.length 1 4 = true
 ·have hp : 0 < s.length := by simp [inB] at hb; omega
  have hp' : (0 : Int) < s.length := by omega
  have he := zsx hp
  refine ⟨fun h => ⟨hp', fun h1 => ⟨hp', fun h2 => ?_, fun h2 => ?_⟩, fun h1 => ?_⟩, fun h => by simp [hb] at h⟩
  ·rw [zay, he, qdc h2]; rfl
  ·rw [qkj h1 h2, Bool.true_and] at he
   refine zag (fun k : Nat => hd [(0, vT (.str s)), (3, vI k)] [] []) (fun k => k <= s.length /\ zrt s = (s.drop k).all zl5) (fun k => s.length - k) 1 (zab ?_) ?_ ?_
   ·simp -implicitDefEqProofs only [go_sem]
   ·exact ⟨hp, he⟩
   ·intro k ⟨hk, hr⟩
    by_cases hlt : k < s.length
    ·have hg : s.getD k 0 = s[k] := by simp [List.getD, hlt]
     rw [List.drop_eq_getElem_cons hlt, List.all_cons] at hr
     simp -implicitDefEqProofs only [go_sem, hlt]
     simp only [hg]
     refine callF (zny s[k]) (by simp -implicitDefEqProofs only [go_sem]) ?_
     simp -implicitDefEqProofs only [go_sem]
     refine ⟨fun h => ?_, fun h => ⟨k + 1, ⟨hlt, ?_⟩, by omega, zab (by simp -implicitDefEqProofs only [go_sem]; rw [zan (by omega)])⟩⟩
     ·have : zl5 s[k] = false := by simpa using h
      rw [zay, hr, this]; rfl
     ·have : zl5 s[k] = true := by simpa using h
      rw [hr, this]; rfl
    ·simp -implicitDefEqProofs only [go_sem, hlt]
     rw [zay, hr, List.drop_of_length_le (by omega), hb]; rfl
  ·rw [zay, he, qc9 h1]; rfl
 ·have hb' : inB s.length 1 4 = false := by simpa using hb
  refine ⟨fun h => by simp [hb'] at h, fun h => ?_⟩
  rw [zay, hb', Bool.and_false]
set_option maxHeartbeats 1000000 in
theorem zkd (s : Str) : FC Tryz.prog 157 [sD s] [bD (zb4 s)] := by
 refine zcn (fun hw => ?_) Tryz.call157
 have hl : s.length <= 9223372036854775807 := by simpa [zfj, wfT] using hw.1
 refine zaq Tryz.call157 Tryz.func157 rfl (by kernel_rfl) (za4 (by kernel_rfl)) ?_
 simp -implicitDefEqProofs only [go_sem, Tryz.results157]
 refine callF (qht s.length 1 6) (by simp -implicitDefEqProofs only [go_sem]) ?_
 simp -implicitDefEqProofs only [go_sem]
 by_cases hb : inB s.length 1 6 = true
 ·have hp : 0 < s.length := by simp [inB] at hb; omega
  have hp' : (0 : Int) < s.length := by omega
  have he := zop hp
  refine ⟨fun h => ⟨hp', fun h1 => ⟨hp', fun h2 => ?_, fun h2 => ?_⟩, fun h1 => ?_⟩, fun h => by simp [hb] at h⟩
  ·rw [zb4, he, zyo h2]; rfl
  ·rw [qcx h1 h2, Bool.true_and] at he
   have leaf : ∀ l, l ∈ zrc -> (s == l) = true -> T.bool false = T.bool (zb4 s) := fun l hl e => by
    have : zrc.contains s = true := by rw [List.contains_iff_mem, beq_iff_eq.1 e]; exact hl
    rw [zb4, this, Bool.not_true, Bool.and_false]
   refine ⟨fun e => ⟨fun _ => leaf _ (by simp [zrc]) e, fun e' => absurd (e.symm.trans e') (by simp)⟩, fun n1 => ?_⟩
   refine ⟨fun e => ⟨fun _ => leaf _ (by simp [zrc]) e, fun e' => absurd (e.symm.trans e') (by simp)⟩, fun n2 => ?_⟩
   refine ⟨fun e => ⟨fun _ => leaf _ (by simp [zrc]) e, fun e' => absurd (e.symm.trans e') (by simp)⟩, fun n3 => ?_⟩
   refine ⟨fun e => ⟨fun _ => leaf _ (by simp [zrc]) e, fun e' => absurd (e.symm.trans e') (by simp)⟩, fun n4 => ?_⟩
   refine ⟨fun e => ⟨fun _ => leaf _ (by simp [zrc]) e, fun e' => absurd (e.symm.trans e') (by simp)⟩, fun n5 => ?_⟩
   refine ⟨fun e => ⟨fun _ => leaf _ (by simp [zrc]) e, fun e' => absurd (e.symm.trans e') (by simp)⟩, fun n6 => ?_⟩
   refine ⟨fun e => ⟨fun _ => leaf _ (by simp [zrc]) e, fun e' => absurd (e.symm.trans e') (by simp)⟩, fun n7 => ?_⟩
   refine ⟨fun e => leaf _ (by simp [zrc]) e, fun n8 => ?_⟩
   have hnc : zrc.contains s = false := by
    simp only [beq_eq_false_iff_ne, ne_eq] at n1 n2 n3 n4 n5 n6 n7 n8
    rw [Bool.eq_false_iff, ne_eq, List.contains_iff_mem]
    simp only [zrc, List.mem_cons, List.not_mem_nil, or_false, not_or]
    exact ⟨n1, n2, n3, n4, n5, n6, n7, n8⟩
   refine zag (fun k : Nat => hd [(0, vT (.str s)), (3, vI k)] [] []) (fun k => k <= s.length /\ zix s = (s.drop k).all zmo) (fun k => s.length - k) 1 (zab ?_) ?_ ?_
   ·simp -implicitDefEqProofs only [go_sem]
   ·exact ⟨hp, he⟩
   ·intro k ⟨hk, hr⟩
    by_cases hlt : k < s.length
    ·have hg : s.getD k 0 = s[k] := by simp [List.getD, hlt]
     rw [List.drop_eq_getElem_cons hlt, List.all_cons] at hr
     simp -implicitDefEqProofs only [go_sem, hlt]
     simp only [hg]
     refine callF (zny s[k]) (by simp -implicitDefEqProofs only [go_sem]) ?_
     simp -implicitDefEqProofs only [go_sem]
     simp only [hg]
     refine ⟨fun h => ⟨hlt, fun h' => ?_, fun h' => ⟨k + 1, ⟨hlt, ?_⟩, by omega, zab (by simp -implicitDefEqProofs only [go_sem]; rw [zan (by omega)])⟩⟩, fun h => ⟨k + 1, ⟨hlt, ?_⟩, by omega, zab (by simp -implicitDefEqProofs only [go_sem]; rw [zan (by omega)])⟩⟩
     ·have : zmo s[k] = false := by
       simp [zmo] at h ⊢
       refine ⟨h, fun e => ?_⟩
       rw [e] at h'
       simp at h'
      rw [zb4, hr, this]; rfl
     ·have : zmo s[k] = true := by
       have := qi6 (b := s[k]) (n := 95) (by omega)
       simp [zmo] at h' ⊢
       right
       simpa [h'] using this
      rw [hr, this]; rfl
     ·have : zmo s[k] = true := by simp [zmo]; simp at h; simp [h]
      rw [hr, this]; rfl
    ·simp -implicitDefEqProofs only [go_sem, hlt]
     rw [zb4, hr, List.drop_of_length_le (by omega), hb, hnc]; rfl
  ·rw [zb4, he, zxm h1]; rfl
 ·have hb' : inB s.length 1 6 = false := by simpa using hb
  refine ⟨fun h => by simp [hb'] at h, fun h => ?_⟩
  rw [zb4, hb', Bool.and_false]; rfl
end Go.Proofs.YtnkagnjiljjpcaaGreat
namespace Go.Proofs.YtnkagnjiljjpcaaGreat
set_option linter.unusedSimpArgs false
set_option linter.unusedVariables false
set_option linter.unusedSectionVars false
set_option maxRecDepth 4000
open Go.RowKit
def Tm.nodes : Tm -> Nat := Tm.fold fun _ _ rs => 1 + rs.sum
theorem Tm.nodes_eq (a : Tm) : a.nodes = 1 + (a.args.map Tm.nodes).sum := Tm.fold_eq _ a
def Tm.depth : Tm -> Nat := Tm.fold fun _ _ rs => rs.foldl max 0 + 1
theorem Tm.depth_eq (a : Tm) : a.depth = (a.args.map Tm.depth).foldl max 0 + 1 := Tm.fold_eq _ a
theorem zfr : ∀ a : Tm, a.nodes <= 1 + a.wt := by
 refine za7 fun n xs ih => ?_
 rw [Tm.nodes_eq, Tm.wt_eq]
 show 1 + (xs.map Tm.nodes).sum <= 1 + (n.length + xs.length + (xs.map Tm.wt).sum)
 have : (xs.map Tm.nodes).sum <= xs.length + (xs.map Tm.wt).sum := by
  clear n
  induction xs with
  | nil => simp
  | cons x xs ih2 =>
   have h1 := ih x (by simp)
   have h2 := ih2 fun y hy => ih y (by simp [hy])
   simp only [List.map_cons, List.sum_cons, List.length_cons]
   omega
 omega
theorem zhe {B : Nat} : ∀ (xs : List Nat) (m : Nat), m <= B -> (∀ x ∈ xs, x <= B) -> xs.foldl max m <= B
 | [], m, h, _ => h
 | x :: xs, m, h, h2 => zhe xs (max m x) (by have := h2 x (by simp); omega) fun y hy => h2 y (by simp [hy])
theorem ziy : ∀ a : Tm, a.depth <= a.nodes := by
 refine za7 fun n xs ih => ?_
 rw [Tm.nodes_eq, Tm.depth_eq]
 show (xs.map Tm.depth).foldl max 0 + 1 <= 1 + (xs.map Tm.nodes).sum
 have := zhe (B := (xs.map Tm.nodes).sum) (xs.map Tm.depth) 0 (by omega) fun d hd => by
  obtain ⟨x, hx, rfl⟩ := List.mem_map.1 hd
  exact Nat.le_trans (ih x hx) (zb1 Tm.nodes xs x hx)
 omega
def szL (lim : Int) : Int -> List Int -> Int
 | n, [] => n
 | n, r :: rs => if n > lim then n else szL lim (n + r) rs
def zej : Tm -> Int := Tm.fold fun _ _ rs => szL 30 1 rs
theorem ztd (a : Tm) : zej a = szL 30 1 (a.args.map zej) := Tm.fold_eq _ a
theorem ztu {α : Type} (f : α -> Int) (g : α -> Nat) (lim : Int) : ∀ (xs : List α) (n : Int), 0 <= n -> (∀ x ∈ xs, 1 <= f x /\ f x <= g x /\ (f x <= lim -> f x = g x)) -> szL lim n (xs.map f) <= n + (xs.map g).sum /\ n <= szL lim n (xs.map f) /\ (szL lim n (xs.map f) <= lim -> szL lim n (xs.map f) = n + (xs.map g).sum)
 | [], n, _, _ => by simp [szL]
 | x :: xs, n, hn, h => by
  obtain ⟨h1, h2, h3⟩ := h x (by simp)
  obtain ⟨k1, k2, k3⟩ := ztu f g lim xs (n + f x) (by omega) fun y hy => h y (by simp [hy])
  simp only [List.map_cons, szL, List.sum_cons]
  split
  ·refine ⟨by omega, by omega, fun hh => by omega⟩
  ·refine ⟨by omega, by omega, fun hh => ?_⟩
   have := k3 hh
   rw [this]
   have : f x = g x := h3 (by omega)
   omega
theorem zkk : ∀ a : Tm, 1 <= zej a /\ zej a <= a.nodes /\ (zej a <= 30 -> zej a = a.nodes) := by
 refine za7 fun n xs ih => ?_
 rw [ztd, Tm.nodes_eq]
 show 1 <= szL 30 1 (xs.map zej) /\ szL 30 1 (xs.map zej) <= ((1 + (xs.map Tm.nodes).sum : Nat) : Int) /\ _
 obtain ⟨k1, k2, k3⟩ := ztu zej Tm.nodes 30 xs 1 (by omega) ih
 refine ⟨k2, by omega, fun h => ?_⟩
 have := k3 h
 show szL 30 1 (xs.map zej) = _
 rw [this]; show _ = ((1 + (xs.map Tm.nodes).sum : Nat) : Int); omega
theorem qfm (a : Tm) : decide (zej a <= 30) = decide (a.nodes <= 30) := by
 obtain ⟨h1, h2, h3⟩ := zkk a
 rw [decide_eq_decide]
 exact ⟨fun h => by have := h3 h; omega, fun h => by omega⟩
def qkp {α : Type} (f : α -> Nat) (xs : List α) (k : Nat) : Nat := ((xs.drop k).map f).sum
theorem zng {α : Type} (f : α -> Nat) (xs : List α) : qkp f xs 0 = (xs.map f).sum := by simp [qkp]
theorem zzg {α : Type} (f : α -> Nat) (xs : List α) (k : Nat) (h : k < xs.length) : qkp f xs k = f xs[k] + qkp f xs (k + 1) := by
 unfold qkp
 rw [List.drop_eq_getElem_cons h, List.map_cons, List.sum_cons]
set_option maxHeartbeats 400000 in
theorem qjl (a : Tm) (hs : a.wt <= 1099511627776) (H : ∀ x ∈ a.args, FC Tryz.prog 161 [tmD x] [iD (zej x)]) : FC Tryz.prog 161 [tmD a] [iD (zej a)] := by
 refine zcn (fun hw => ?_) Tryz.call161
 have hl : a.args.length <= 9223372036854775807 := by rw [Tm.wt_eq] at hs; omega
 have hn := zfr a
 have hN := a.nodes_eq
 simp only [tmD, zaa]
 refine zaq Tryz.call161 Tryz.func161 rfl (by kernel_rfl) (za4 (by kernel_rfl)) ?_
 simp -implicitDefEqProofs only [go_sem, Tryz.results161]
 refine zag (fun p : Nat × Int => hd [(3, vI p.2), (7, vT (tmS a.args)), (8, vI a.args.length), (9, vI p.1)] [] []) (fun p => p.1 <= a.args.length /\ zej a = szL 30 p.2 ((a.args.drop p.1).map zej) /\ 1 <= p.2 /\ p.2 + qkp Tm.nodes a.args p.1 <= a.nodes) (fun p => a.args.length - p.1) (0, 1) (zab ?_) ?_ ?_
 ·simp -implicitDefEqProofs only [go_sem]
 ·exact ⟨by simp, by rw [ztd]; rfl, by omega, by rw [zng]; omega⟩
 ·intro ⟨k, n⟩ ⟨hk, hr, h1, h2⟩
  simp only at hk hr h1 h2
  by_cases hlt : k < a.args.length
  ·have hd := zzg Tm.nodes a.args k hlt
   obtain ⟨s1, s2, s3⟩ := zkk a.args[k]
   rw [List.drop_eq_getElem_cons hlt, List.map_cons, szL] at hr
   simp -implicitDefEqProofs only [go_sem, zai, hlt, zaa]
   refine ⟨fun h => ?_, fun h => ?_⟩
   ·rw [hr, if_pos (by simpa using h)]
   ·refine callF (H a.args[k] (List.getElem_mem hlt)) (by simp -implicitDefEqProofs only [go_sem, zaa]) ?_
    simp -implicitDefEqProofs only [go_sem, zaa]
    rw [if_neg (by simpa using h)] at hr
    exact ⟨(k + 1, n + zej a.args[k]), ⟨hlt, hr, by simp only; omega, by simp only; omega⟩, by simp only; omega, zab (by simp -implicitDefEqProofs only [go_sem]; rw [zan (by omega), zbt (by omega) (by omega)]; exact ⟨rfl, rfl⟩)⟩
  ·simp -implicitDefEqProofs only [go_sem, hlt]
   rw [hr, List.drop_of_length_le (by omega)]; rfl
theorem size_c : ∀ a : Tm, a.wt <= 1099511627776 -> FC Tryz.prog 161 [tmD a] [iD (zej a)] :=
 za7 fun n xs ih hs => qjl (.mk n xs) hs fun x hx => ih x hx (by
  have := Tm.wt_eq (.mk n xs)
  have := zb1 Tm.wt xs x hx
  simp only [Tm.args] at *; omega)
set_option maxHeartbeats 400000 in
theorem qe6 (a : Tm) (hs : a.wt <= 1099511627776) (H : ∀ x ∈ a.args, FC Tryz.prog 111 [tmD x] [iD x.depth]) : FC Tryz.prog 111 [tmD a] [iD a.depth] := by
 have hl : a.args.length <= 9223372036854775807 := by rw [Tm.wt_eq] at hs; omega
 have hn := zfr a
 have hdn := ziy a
 have hD := a.depth_eq
 simp only [tmD, zaa]
 refine zaq Tryz.call111 Tryz.func111 rfl (by kernel_rfl) (za4 (by kernel_rfl)) ?_
 simp -implicitDefEqProofs only [go_sem, Tryz.results111]
 refine zag (fun p : Nat × Nat => hd [(3, vI p.2), (7, vT (tmS a.args)), (8, vI a.args.length), (9, vI p.1)] [] []) (fun p => p.1 <= a.args.length /\ a.depth = ((a.args.drop p.1).map Tm.depth).foldl max p.2 + 1) (fun p => a.args.length - p.1) (0, 0) (zab ?_) ?_ ?_
 ·simp -implicitDefEqProofs only [go_sem]
 ·exact ⟨by simp, hD⟩
 ·intro ⟨k, n⟩ ⟨hk, hr⟩
  simp only at hk hr
  by_cases hlt : k < a.args.length
  ·rw [List.drop_eq_getElem_cons hlt, List.map_cons, List.foldl_cons] at hr
   simp -implicitDefEqProofs only [go_sem, zai, hlt, zaa]
   refine callF (H a.args[k] (List.getElem_mem hlt)) (by simp -implicitDefEqProofs only [go_sem, zaa]) ?_
   simp -implicitDefEqProofs only [go_sem, zaa]
   exact ⟨(k + 1, max n a.args[k].depth), ⟨hlt, hr⟩, by simp only; omega, zab (by simp -implicitDefEqProofs only [go_sem]; rw [zan (by omega)]; exact ⟨by congr 1; omega, rfl⟩)⟩
  ·simp -implicitDefEqProofs only [go_sem, hlt]
   rw [List.drop_of_length_le (by omega)] at hr
   simp only [List.map_nil, List.foldl_nil] at hr
   rw [hr, zan (by omega)]
theorem qil : ∀ a : Tm, a.wt <= 1099511627776 -> FC Tryz.prog 111 [tmD a] [iD a.depth] :=
 za7 fun n xs ih hs => qe6 (.mk n xs) hs fun x hx => ih x hx (by
  have := Tm.wt_eq (.mk n xs)
  have := zb1 Tm.wt xs x hx
  simp only [Tm.args] at *; omega)
def zcs (a : Tm) : Bool := decide (a.nodes <= 30) && decide (a.depth <= 8)
theorem znq (a : Tm) (hs : a.wt <= 1099511627776) : FC Tryz.prog 113 [tmD a] [bD (zcs a)] := by
 simp only [tmD, zaa]
 refine zaq Tryz.call113 Tryz.func113 rfl (by kernel_rfl) (za4 (by kernel_rfl)) ?_
 simp -implicitDefEqProofs only [go_sem, Tryz.results113]
 refine callF (size_c a hs) (by simp -implicitDefEqProofs only [go_sem, zaa]) ?_
 simp -implicitDefEqProofs only [go_sem, zaa]
 rw [qfm]
 refine ⟨fun h => ?_, fun h => ?_⟩
 ·refine callF (qil a hs) (by simp -implicitDefEqProofs only [go_sem, zaa]) ?_
  simp -implicitDefEqProofs only [go_sem, zaa]
  rw [zcs, h, Bool.true_and]
  congr 1
  rw [decide_eq_decide]; omega
 ·rw [zcs, h]; rfl
end Go.Proofs.YtnkagnjiljjpcaaGreat
namespace Go.Proofs.YtnkagnjiljjpcaaGreat
set_option linter.unusedSimpArgs false
set_option linter.unusedVariables false
set_option linter.unusedSectionVars false
set_option maxRecDepth 4000
open Go.RowKit
theorem qgh (σ : St) (caps : List T) : VDs σ (caps.map fun t => .one (.t t)) (caps.map .one) = True := by
 induction caps with
 | nil => simp [VDs]
 | cons t ts ih => rw [List.map_cons, List.map_cons, zug, ih]; simp [qhj, CT_t]
attribute [go_sem] qgh
def zsa {α : Type} (xs : List α) (p : α -> Bool) : Int := if xs.any p then xs.findIdx p else -1
theorem zet {α : Type} {xs : List α} {p : α -> Bool} {k : Nat} (hk : k < xs.length) (hn : ∀ x ∈ xs.take k, p x = false) (h : p xs[k] = true) : zsa xs p = k := by
 have ha : xs.any p = true := List.any_eq_true.2 ⟨xs[k], List.getElem_mem hk, h⟩
 have hf : xs.findIdx p = k := (List.findIdx_eq hk).2 ⟨h, fun j hj => hn _ (by
  rw [List.mem_take_iff_getElem]; exact ⟨j, by omega, rfl⟩)⟩
 rw [zsa, if_pos ha, hf]
theorem zf2 {α : Type} {xs : List α} {p : α -> Bool} (hn : ∀ x ∈ xs, p x = false) : zsa xs p = -1 := by
 have ha : xs.any p = false := by rw [List.any_eq_false]; exact fun x hx => by simp [hn x hx]
 rw [zsa, ha]; rfl
theorem zl8 {α : Type} (xs : List α) (p : α -> Bool) : decide (0 <= zsa xs p) = xs.any p := by
 unfold zsa
 cases xs.any p <;> simp
theorem zcu {α : Type} {xs : List α} {p : α -> Bool} {k : Nat} (hk : k < xs.length) (hn : ∀ x ∈ xs.take k, p x = false) (h : p xs[k] = false) : ∀ x ∈ xs.take (k + 1), p x = false := by
 rw [List.take_succ_eq_append_getElem hk]
 intro x hx
 rcases List.mem_append.1 hx with hx | hx
 ·exact hn x hx
 ·rw [List.mem_singleton.1 hx]; exact h
theorem zjc (xs : List Tm) (p : Tm -> Bool) (g : FuncId) (caps : List T) (H : ∀ x ∈ xs, FC Tryz.prog g (tmD x :: caps.map .one) [bD (p x)]) : FC Tryz.prog 112 [.one (tmS xs), .one (.fn g caps)] [iD (zsa xs p)] := by
 refine zcn (fun hw => ?_) Tryz.call112
 have hl : xs.length <= 9223372036854775807 := by simpa [zfj, wfT] using hw.1.1
 refine zaq Tryz.call112 Tryz.func112 rfl (by kernel_rfl) (za4 (by kernel_rfl)) ?_
 simp -implicitDefEqProofs only [go_sem, Tryz.results112]
 refine zag (fun k : Nat => hd [(0, vT (tmS xs)), (1, vT (.fn g caps)), (7, vI xs.length), (8, vI k)] [] []) (fun k => k <= xs.length /\ ∀ x ∈ xs.take k, p x = false) (fun k => xs.length - k) 0 (zab ?_) ?_ ?_
 ·simp -implicitDefEqProofs only [go_sem]
 ·simp
 ·intro k ⟨hk, hr⟩
  by_cases hlt : k < xs.length
  ·simp -implicitDefEqProofs only [go_sem, zai, hlt, zaa]
   refine callF (H xs[k] (List.getElem_mem hlt)) (by simp -implicitDefEqProofs only [go_sem, zaa]) ?_
   simp -implicitDefEqProofs only [go_sem, zaa]
   refine ⟨fun h => ?_, fun h => ⟨k + 1, ⟨hlt, zcu hlt hr h⟩, by omega, zab (by simp -implicitDefEqProofs only [go_sem]; rw [zan (by omega)])⟩⟩
   rw [zet hlt hr h]
  ·simp -implicitDefEqProofs only [go_sem, hlt]
   rw [List.take_of_length_le (by omega)] at hr
   rw [zf2 hr]
theorem zdb (xs : List Tm) (p : Tm -> Bool) (g : FuncId) (caps : List T) (H : ∀ x ∈ xs, FC Tryz.prog g (tmD x :: caps.map .one) [bD (p x)]) : FC Tryz.prog 61 [.one (tmS xs), .one (.fn g caps)] [bD (xs.any p)] := by
 refine zaq Tryz.call61 Tryz.func61 rfl (by kernel_rfl) (za4 (by kernel_rfl)) ?_
 simp -implicitDefEqProofs only [go_sem, Tryz.results61]
 refine callF (zjc xs p g caps H) (by simp -implicitDefEqProofs only [go_sem]) ?_
 simp -implicitDefEqProofs only [go_sem]
 rw [zl8]
end Go.Proofs.YtnkagnjiljjpcaaGreat
namespace Go.Proofs.YtnkagnjiljjpcaaGreat
set_option linter.unusedSimpArgs false
set_option linter.unusedVariables false
set_option linter.unusedSectionVars false
set_option maxRecDepth 4000
open Go.RowKit
def Tm.names : Tm -> Bool := Tm.fold fun n xs rs => if zay n = true then decide (xs.length = 0) else zb4 n && decide (xs.length <= 4) && rs.all id
theorem Tm.names_eq (a : Tm) : a.names = if zay a.name = true then decide (a.args.length = 0) else zb4 a.name && decide (a.args.length <= 4) && a.args.all Tm.names := by
 unfold Tm.names
 rw [Tm.fold_eq]
 simp only [List.all_map]
 rfl
theorem zw3 {α : Type} (xs : List α) (p : α -> Bool) : (!xs.any fun x => !p x) = xs.all p := by
 induction xs with
 | nil => rfl
 | cons x xs ih => simp only [List.any_cons, List.all_cons, Bool.not_or, Bool.not_not, ih]
theorem zq3 (a : Tm) (H : ∀ x ∈ a.args, FC Tryz.prog 114 [tmD x] [bD x.names]) : FC Tryz.prog 114 [tmD a] [bD a.names] := by
 have H1 : ∀ x ∈ a.args, FC Tryz.prog 164 [tmD x] [bD (!x.names)] := fun x hx => by
  simp only [tmD, zaa]
  refine zaq Tryz.call164 Tryz.func164 rfl (by kernel_rfl) (za4 (by kernel_rfl)) ?_
  simp -implicitDefEqProofs only [go_sem, Tryz.results164]
  refine callF (H x hx) (by simp -implicitDefEqProofs only [go_sem, zaa]) ?_
  simp -implicitDefEqProofs only [go_sem, zaa]
 have hN := a.names_eq
 simp only [tmD, zaa]
 refine zaq Tryz.call114 Tryz.func114 rfl (by kernel_rfl) (za4 (by kernel_rfl)) ?_
 simp -implicitDefEqProofs only [go_sem, Tryz.results114]
 refine callF (zo7 a.name) (by simp -implicitDefEqProofs only [go_sem]) ?_
 simp -implicitDefEqProofs only [go_sem]
 refine ⟨fun h => ?_, fun h => ?_⟩
 ·rw [hN, if_pos h]
  congr 1
  rw [Bool.eq_iff_iff]; simp
 ·rw [h] at hN
  simp only [Bool.false_eq_true, if_false] at hN
  refine callF (zk5 a.name) (by simp -implicitDefEqProofs only [go_sem]) ?_
  simp -implicitDefEqProofs only [go_sem]
  refine ⟨fun h1 => ⟨fun h2 => ?_, fun h2 => ?_⟩, fun h1 => ?_⟩
  ·refine callF (zdb a.args (fun x => !x.names) _ [] H1) (by simp -implicitDefEqProofs only [go_sem]) ?_
   simp -implicitDefEqProofs only [go_sem]
   rw [zw3, hN, h1, Bool.true_and]
   rw [show decide (a.args.length <= 4) = true by simp at h2 ⊢; omega]; rfl
  ·rw [hN, h1, Bool.true_and, show decide (a.args.length <= 4) = false by simp at h2 ⊢; omega]; rfl
  ·rw [hN, h1]; rfl
theorem zg0 : ∀ a : Tm, FC Tryz.prog 114 [tmD a] [bD a.names] := za7 fun n xs ih => zq3 (.mk n xs) ih
def Tm.good (a : Tm) : Bool := zcs a && a.names
theorem zfz (a : Tm) (hs : a.wt <= 1099511627776) : FC Tryz.prog 63 [tmD a] [bD a.good] := by
 simp only [tmD, zaa]
 refine zaq Tryz.call63 Tryz.func63 rfl (by kernel_rfl) (za4 (by kernel_rfl)) ?_
 simp -implicitDefEqProofs only [go_sem, Tryz.results63]
 refine callF (znq a hs) (by simp -implicitDefEqProofs only [go_sem, zaa]) ?_
 simp -implicitDefEqProofs only [go_sem, zaa]
 refine ⟨fun h => ?_, fun h => ?_⟩
 ·refine callF (zg0 a) (by simp -implicitDefEqProofs only [go_sem, zaa]) ?_
  simp -implicitDefEqProofs only [go_sem, zaa]
  rw [Tm.good, h, Bool.true_and]
 ·rw [Tm.good, h, Bool.false_and]
theorem zoq (a : Tm) : FC Tryz.prog 98 [tmD a] [bD (a.name == [61])] := by
 simp only [tmD, zaa]
 refine zaq Tryz.call98 Tryz.func98 rfl (by kernel_rfl) (za4 (by kernel_rfl)) ?_
 simp -implicitDefEqProofs only [go_sem, Tryz.results98]
def Tm.atomOk (a : Tm) : Bool := if (a.name == [61]) = true then decide (a.args.length = 2) && zcs a && a.args.all Tm.names else zb4 a.name && a.good
theorem zwy {α : Type} {xs : List α} {p : α -> Bool} (h : xs.length = 2) : xs.all p = (p (xs[0]'(by omega)) && p (xs[1]'(by omega))) := by
 match xs, h with
 | [a, b], _ => simp
theorem zlt (a : Tm) (hs : a.wt <= 1099511627776) : FC Tryz.prog 168 [tmD a] [bD a.atomOk] := by
 have hN : a.atomOk = if (a.name == [61]) = true then decide (a.args.length = 2) && zcs a && a.args.all Tm.names else zb4 a.name && a.good := rfl
 simp only [tmD, zaa]
 refine zaq Tryz.call168 Tryz.func168 rfl (by kernel_rfl) (za4 (by kernel_rfl)) ?_
 simp -implicitDefEqProofs only [go_sem, Tryz.results168]
 refine callF (zoq a) (by simp -implicitDefEqProofs only [go_sem, zaa]) ?_
 simp -implicitDefEqProofs only [go_sem, zaa]
 refine ⟨fun h => ?_, fun h => ?_⟩
 ·rw [if_pos h] at hN
  by_cases h2 : a.args.length = 2
  ·have k0 : 0 < a.args.length := by omega
   have k1 : 1 < a.args.length := by omega
   have e2 : ((a.args.length : Int) == 2) = true := by simp [h2]
   have l0 : (0 : Int) < a.args.length := by omega
   have l1 : (1 : Int) < a.args.length := by omega
   rw [zwy h2, show decide (a.args.length = 2) = true by simp [h2]] at hN
   simp only [Bool.true_and] at hN
   simp only [e2, qa6, zeb, qin, zdl, and_true]
   refine callF (znq a hs) (by simp -implicitDefEqProofs only [go_sem, zaa, l0, zai, k0]) ?_
   simp -implicitDefEqProofs only [go_sem, zaa, l0, zai, k0]
   refine ⟨fun h3 => ?_, fun h3 => ?_⟩
   ·refine callF (zg0 a.args[0]) (by simp -implicitDefEqProofs only [go_sem, zaa, l1, zai, k1]) ?_
    simp -implicitDefEqProofs only [go_sem, zaa, l1, zai, k1]
    refine ⟨fun h4 => ?_, fun h4 => ?_⟩
    ·refine callF (zg0 a.args[1]) (by simp -implicitDefEqProofs only [go_sem, zaa]) ?_
     simp -implicitDefEqProofs only [go_sem, zaa]
     rw [hN, h3, h4]; rfl
    ·rw [hN, h3, h4]; rfl
   ·rw [hN, h3]; rfl
  ·have e2 : ((a.args.length : Int) == 2) = false := by simp; omega
   simp only [e2, qa6, qkk, zeb, zdl, and_true, true_and, qj2]
   rw [hN, show decide (a.args.length = 2) = false by simpa using h2]; rfl
 ·rw [h] at hN
  simp only [Bool.false_eq_true, if_false] at hN
  refine callF (zk5 a.name) (by simp -implicitDefEqProofs only [go_sem]) ?_
  simp -implicitDefEqProofs only [go_sem]
  refine ⟨fun h3 => ?_, fun h3 => ?_⟩
  ·refine callF (zfz a hs) (by simp -implicitDefEqProofs only [go_sem, zaa]) ?_
   simp -implicitDefEqProofs only [go_sem, zaa]
   rw [hN, h3, Bool.true_and]
  ·rw [hN, h3, Bool.false_and]
end Go.Proofs.YtnkagnjiljjpcaaGreat
namespace Go.Proofs.YtnkagnjiljjpcaaGreat
set_option linter.unusedSimpArgs false
set_option linter.unusedVariables false
set_option linter.unusedSectionVars false
set_option maxRecDepth 4000
open Go.RowKit
def voI : Tm -> List Str := Tm.fold fun n xs rs => if (decide (xs.length = 0) && zhn (n.getD 0 0)) = true then [n] else rs.flatten
theorem zty (a : Tm) : voI a = if (decide (a.args.length = 0) && zhn (a.name.getD 0 0)) = true then [a.name] else (a.args.map voI).flatten := Tm.fold_eq _ a
def voS : Tm -> List Str := Tm.fold fun n _ rs => if zay n = true then [n] else rs.flatten
theorem zo2 (a : Tm) : voS a = if zay a.name = true then [a.name] else (a.args.map voS).flatten := Tm.fold_eq _ a
def Tm.ne : Tm -> Bool := Tm.fold fun n xs rs => (!decide (xs.length = 0) || decide (0 < n.length)) && rs.all id
theorem Tm.ne_eq' (a : Tm) : a.ne = ((!decide (a.args.length = 0) || decide (0 < a.name.length)) && a.args.all Tm.ne) := by
 unfold Tm.ne
 rw [Tm.fold_eq]
 simp only [List.all_map]
 rfl
def zm6 (l : List Str) (s : Str) : List Str := if l.contains s = true then l else l ++ [s]
def zbv (l : List Str) (ss : List Str) : List Str := ss.foldl zm6 l
theorem qf9 (l : List Str) (s : Str) : (zm6 l s).length <= l.length + 1 := by unfold zm6; split <;> simp
theorem zgi : ∀ (ss : List Str) (l : List Str), (zbv l ss).length <= l.length + ss.length
 | [], l => by simp [zbv]
 | s :: ss, l => by have := zgi ss (zm6 l s); have := qf9 l s; simp only [zbv, List.foldl_cons, List.length_cons] at *; omega
theorem zis (l a b : List Str) : zbv l (a ++ b) = zbv (zbv l a) b := List.foldl_append ..
theorem qdu (l : List Str) (s x : Str) : x ∈ zm6 l s ↔ x = s \/ x ∈ l := by
 unfold zm6
 split
 ·rename_i h
  have h : s ∈ l := by simpa using h
  exact ⟨Or.inr, fun k => k.elim (fun e => e ▸ h) id⟩
 ·simp [or_comm]
theorem znh : ∀ (ss l : List Str) (x : Str), x ∈ zbv l ss ↔ x ∈ ss \/ x ∈ l
 | [], l, x => by simp [zbv]
 | s :: ss, l, x => by
  show x ∈ zbv (zm6 l s) ss ↔ _
  rw [znh ss, qdu]; simp [or_assoc, or_left_comm, or_comm]
theorem qjb {l : List Str} (h : l.Nodup) (s : Str) : (zm6 l s).Nodup := by
 unfold zm6
 split
 ·exact h
 ·rename_i hn
  have hn : s ∉ l := by simpa using hn
  exact List.nodup_append.2 ⟨h, by simp, fun a ha b hb e => hn (by rw [List.mem_singleton.1 hb] at e; exact e ▸ ha)⟩
theorem zmp : ∀ (ss : List Str) {l : List Str}, l.Nodup -> (zbv l ss).Nodup
 | [], _, h => h
 | s :: ss, _, h => zmp ss (qjb h s)
def zb7 (l : List Str) (ss : List Str) : List Str := ss.foldl zwq l
theorem qe8 (l : List Str) (s : Str) : (zwq l s).length <= l.length + 1 := by
 unfold zwq
 split
 ·omega
 ·have : l.length = ((l.takeWhile fun x => Op.bytesLess x s) ++ l.dropWhile fun x => Op.bytesLess x s).length := by rw [List.takeWhile_append_dropWhile]
  simp only [List.length_append, List.length_cons, List.length_nil] at *; omega
theorem znu : ∀ (ss : List Str) (l : List Str), (zb7 l ss).length <= l.length + ss.length
 | [], l => by simp [zb7]
 | s :: ss, l => by have := znu ss (zwq l s); have := qe8 l s; simp only [zb7, List.foldl_cons, List.length_cons] at *; omega
theorem znf (l a b : List Str) : zb7 l (a ++ b) = zb7 (zb7 l a) b := List.foldl_append ..
theorem zil : ∀ (ss l : List Str) (x : Str), x ∈ zb7 l ss ↔ x ∈ ss \/ x ∈ l
 | [], l, x => by simp [zb7]
 | s :: ss, l, x => by
  show x ∈ zb7 (zwq l s) ss ↔ _
  rw [zil ss, qe3]; simp [or_assoc, or_left_comm, or_comm]
theorem zon : ∀ (ss : List Str) {l : List Str}, Srt l -> Srt (zb7 l ss)
 | [], _, h => h
 | s :: ss, _, h => zon ss (qe1 h s)
theorem zhu (ss : List Str) : zg1 (zbv [] ss) = zb7 [] ss :=
 qkc (qck (zmp ss List.nodup_nil)) (zon ss List.Pairwise.nil) fun s => by rw [qa5, znh, zil]
theorem zry (a : Tm) (h : 0 < a.name.length) : FC Tryz.prog 90 [tmD a] [bD (zhn (a.name.getD 0 0))] := by
 simp only [tmD, zaa]
 refine zaq Tryz.call90 Tryz.func90 rfl (by kernel_rfl) (za4 (by kernel_rfl)) ?_
 simp -implicitDefEqProofs only [go_sem, Tryz.results90]
 have h0 : (0 : Int) < a.name.length := by omega
 simp -implicitDefEqProofs only [go_sem, h0, h]
 refine callF (zox (a.name.getD 0 0)) (by simp -implicitDefEqProofs only [go_sem]) ?_
 simp -implicitDefEqProofs only [go_sem]
theorem zdj {α : Type} (f : α -> List Str) (xs : List α) (k : Nat) (h : k < xs.length) : ((xs.take (k + 1)).map f).flatten = ((xs.take k).map f).flatten ++ f xs[k] := by
 rw [List.take_succ_eq_append_getElem h, List.map_append, List.flatten_append]; simp
theorem zrm {α : Type} (f : α -> List Str) : ∀ (xs : List α), ∀ x ∈ xs, (f x).length <= ((xs.map f).flatten).length
 | [], x, h => by simp at h
 | a :: xs, x, h => by
  rcases List.mem_cons.1 h with rfl | h
  ·simp
  ·have := zrm f xs x h; simp at *; omega
theorem zco {α : Type} (f : α -> List Str) (xs : List α) (k : Nat) (h : k < xs.length) : (((xs.take k).map f).flatten).length + (f xs[k]).length <= ((xs.map f).flatten).length := by
 have e : xs = xs.take k ++ xs[k] :: xs.drop (k + 1) := by rw [<- List.drop_eq_getElem_cons h, List.take_append_drop]
 conv => rhs; rw [e]
 simp only [List.map_append, List.map_cons, List.flatten_append, List.flatten_cons, List.length_append]; omega
set_option maxHeartbeats 1000000 in
theorem zvd (a : Tm) (ha : a.ne = true) (H : ∀ x ∈ a.args, ∀ ys : List Str, ys.length + (voI x).length <= 1073741824 -> GC Tryz.prog 125 [(true, .one (zd3 ys)), (false, tmD x)] [.one (zd3 (zbv ys (voI x)))])
  (ys : List Str) (hs : ys.length + (voI a).length <= 1073741824) (hl : a.args.length <= 1099511627776) : GC Tryz.prog 125 [(true, .one (zd3 ys)), (false, tmD a)] [.one (zd3 (zbv ys (voI a)))] := by
 have hv := zty a
 rw [Tm.ne_eq'] at ha
 simp only [tmD, zaa]
 refine zuv Tryz.call125 Tryz.func125 rfl (by kernel_rfl) (by simp only [List.length_cons, List.length_nil, Tryz.ntmps125]; omega) (by simp [zbz, T.isPin]) ?_
 simp -implicitDefEqProofs only [go_sem, Tryz.results125]
 by_cases h0 : a.args.length = 0
 ·have hn : 0 < a.name.length := by simp [h0] at ha; omega
  have e0 : ((a.args.length : Int) == 0) = true := by simp [h0]
  have hV := zry a hn
  simp only [tmD, zaa] at hV
  simp -implicitDefEqProofs only [go_sem, e0]
  refine callF (hV) (by simp -implicitDefEqProofs only [go_sem]) ?_
  simp -implicitDefEqProofs only [go_sem]
  refine ⟨fun h1 => ?_, fun h1 => ?_⟩
  ·rw [h1, show decide (a.args.length = 0) = true by simpa using h0, Bool.true_and, if_pos rfl] at hv
   rw [hv] at hs ⊢
   refine callF (zge ys a.name) (by simp -implicitDefEqProofs only [go_sem]) ?_
   simp -implicitDefEqProofs only [go_sem]
   have hy : ys.length + 1 <= 4294967296 := by simp at hs; omega
   have hy2 : ys.length <= 4294967295 := by simp at hs; omega
   refine ⟨fun h2 => ?_, fun h2 => ?_⟩
   ·have h2 : ys.contains a.name = false := by simpa using h2
    refine zcd (by simp -implicitDefEqProofs only [go_sem]) ?_
    simp -implicitDefEqProofs only [go_sem]
    refine apD true (by simp -implicitDefEqProofs only [go_sem, hy, hy2, ne_eq, List.length_map]) ?_
    simp -implicitDefEqProofs only [go_sem, hy, hy2, ne_eq, List.length_map]
    have e : zbv ys [a.name] = ys ++ [a.name] := by show zm6 ys a.name = _; unfold zm6; rw [h2]; simp
    exact Or.inl (by rw [e]; simp)
   ·have h2 : ys.contains a.name = true := by simpa using h2
    have e : zbv ys [a.name] = ys := by show zm6 ys a.name = _; unfold zm6; rw [h2]; simp
    exact Or.inl (by rw [e])
  ·rw [h1, Bool.and_false, if_neg (by simp), List.length_eq_zero_iff.1 h0, List.map_nil, List.flatten_nil] at hv
   have hv : voI a = (a.args.map voI).flatten := by rw [hv, List.length_eq_zero_iff.1 h0]; rfl
   rw [hv] at hs ⊢
   refine zag (fun k : Nat => hd [(0, .one (.ow 0 0)), (27, .one (.rn (tmS a.args))), (28, vI a.args.length), (29, vI k)] [] [(0, ⟨true, 1, (zbv ys ((a.args.take k).map voI).flatten).map fun s => [.str s], 0, true⟩)]) (fun k => k <= a.args.length) (fun k => a.args.length - k) 0 (zab ?_) (Nat.zero_le _) ?_
   ·simp -implicitDefEqProofs only [go_sem]
    rfl
   ·intro k hk
    by_cases hlt : k < a.args.length
    ·have hf := zco voI a.args k hlt
     have hL := zgi ((a.args.take k).map voI).flatten ys
     have hx := zrm voI a.args _ (List.getElem_mem hlt)
     have HC := H a.args[k] (List.getElem_mem hlt) (zbv ys ((a.args.take k).map voI).flatten) (by omega)
     rw [<- zis, <- zdj voI a.args k hlt] at HC
     simp only [tmD, zaa a.args[k]] at HC
     simp -implicitDefEqProofs only [go_sem, zai, hlt, zaa a.args[k]]
     refine ze7 [27, 28, 29] [33, 34] [] (HC) (by simp -implicitDefEqProofs only [go_sem]) (by simp -implicitDefEqProofs only [go_sem]) (by simp -implicitDefEqProofs only [go_sem]) (by simp -implicitDefEqProofs only [go_sem]) ?_
     simp -implicitDefEqProofs only [go_sem]
     refine ⟨k + 1, hlt, by omega, zfq 0 1120 ?_⟩
     simp -implicitDefEqProofs only [go_sem]
     rw [zan (by omega)]
    ·simp -implicitDefEqProofs only [go_sem, hlt]
     exact Or.inl (by rw [List.take_of_length_le (by omega)])
 ·have e0 : ((a.args.length : Int) == 0) = false := by simp [h0]
  rw [show decide (a.args.length = 0) = false by simpa using h0, Bool.false_and, if_neg (by simp)] at hv
  rw [hv] at hs ⊢
  simp -implicitDefEqProofs only [go_sem, e0]
  refine zag (fun k : Nat => hd [(0, .one (.ow 0 0)), (27, .one (.rn (tmS a.args))), (28, vI a.args.length), (29, vI k)] [] [(0, ⟨true, 1, (zbv ys ((a.args.take k).map voI).flatten).map fun s => [.str s], 0, true⟩)]) (fun k => k <= a.args.length) (fun k => a.args.length - k) 0 (zab ?_) (Nat.zero_le _) ?_
  ·simp -implicitDefEqProofs only [go_sem]
   rfl
  ·intro k hk
   by_cases hlt : k < a.args.length
   ·have hf := zco voI a.args k hlt
    have hL := zgi ((a.args.take k).map voI).flatten ys
    have hx := zrm voI a.args _ (List.getElem_mem hlt)
    have HC := H a.args[k] (List.getElem_mem hlt) (zbv ys ((a.args.take k).map voI).flatten) (by omega)
    rw [<- zis, <- zdj voI a.args k hlt] at HC
    simp only [tmD, zaa a.args[k]] at HC
    simp -implicitDefEqProofs only [go_sem, zai, hlt, zaa a.args[k]]
    refine ze7 [27, 28, 29] [33, 34] [] (HC) (by simp -implicitDefEqProofs only [go_sem]) (by simp -implicitDefEqProofs only [go_sem]) (by simp -implicitDefEqProofs only [go_sem]) (by simp -implicitDefEqProofs only [go_sem]) ?_
    simp -implicitDefEqProofs only [go_sem]
    refine ⟨k + 1, hlt, by omega, zfq 0 1120 ?_⟩
    simp -implicitDefEqProofs only [go_sem]
    rw [zan (by omega)]
   ·simp -implicitDefEqProofs only [go_sem, hlt]
    exact Or.inl (by rw [List.take_of_length_le (by omega)])
theorem zol : ∀ a : Tm, a.ne = true -> a.wt <= 1099511627776 -> ∀ ys : List Str, ys.length + (voI a).length <= 1073741824 -> GC Tryz.prog 125 [(true, .one (zd3 ys)), (false, tmD a)] [.one (zd3 (zbv ys (voI a)))] :=
 za7 fun n xs ih ha hw ys hs => zvd (.mk n xs) ha (fun x hx ys hs => ih x hx (by rw [Tm.ne_eq', Bool.and_eq_true] at ha; exact List.all_eq_true.1 ha.2 x hx) (by
  have := Tm.wt_eq (.mk n xs)
  have := zb1 Tm.wt xs x hx
  simp only [Tm.args] at *; omega) ys hs) ys hs (by have := Tm.wt_eq (.mk n xs); omega)
theorem qcg (a : Tm) (H : ∀ x ∈ a.args, ∀ ys : List Str, ys.length + (voS x).length <= 1073741824 -> GC Tryz.prog 136 [(true, .one (zd3 ys)), (false, tmD x)] [.one (zd3 (zb7 ys (voS x)))])
  (ys : List Str) (hs : ys.length + (voS a).length <= 1073741824) (hl : a.args.length <= 1099511627776) : GC Tryz.prog 136 [(true, .one (zd3 ys)), (false, tmD a)] [.one (zd3 (zb7 ys (voS a)))] := by
 have hv := zo2 a
 simp only [tmD, zaa]
 refine zuv Tryz.call136 Tryz.func136 rfl (by kernel_rfl) (by simp only [List.length_cons, List.length_nil, Tryz.ntmps136]; omega) (by simp [zbz, T.isPin]) ?_
 simp -implicitDefEqProofs only [go_sem, Tryz.results136]
 refine callF (zik a.name) (by simp -implicitDefEqProofs only [go_sem]) ?_
 simp -implicitDefEqProofs only [go_sem]
 refine ⟨fun h => ?_, fun h => ?_⟩
 ·rw [if_pos h] at hv
  rw [hv] at hs ⊢
  refine ze7 [] [9, 11] [] (qki ys a.name (by simp at hs; omega)) (by simp -implicitDefEqProofs only [go_sem]) (by simp -implicitDefEqProofs only [go_sem]) (by simp -implicitDefEqProofs only [go_sem]) (by simp -implicitDefEqProofs only [go_sem]) ?_
  simp -implicitDefEqProofs only [go_sem]
  exact Or.inl rfl
 ·rw [h, if_neg (by simp)] at hv
  rw [hv] at hs ⊢
  refine zag (fun k : Nat => hd [(0, .one (.ow 0 0)), (3, .one (.bx 3 0)), (5, vI k)] [(3, [.t (.str a.name), .rn (tmS a.args)])] [(0, ⟨true, 1, (zb7 ys ((a.args.take k).map voS).flatten).map fun s => [.str s], 0, true⟩)]) (fun k => k <= a.args.length) (fun k => a.args.length - k) 0 (zab ?_) (Nat.zero_le _) ?_
  ·simp -implicitDefEqProofs only [go_sem]
   rfl
  ·intro k hk
   by_cases hlt : k < a.args.length
   ·have hf := zco voS a.args k hlt
    have hL := znu ((a.args.take k).map voS).flatten ys
    have HC := H a.args[k] (List.getElem_mem hlt) (zb7 ys ((a.args.take k).map voS).flatten) (by omega)
    rw [<- znf, <- zdj voS a.args k hlt] at HC
    simp only [tmD, zaa a.args[k]] at HC
    simp -implicitDefEqProofs only [go_sem, zai, hlt, zaa a.args[k]]
    refine ze7 [3, 5] [20, 25] [] (HC) (by simp -implicitDefEqProofs only [go_sem]) (by simp -implicitDefEqProofs only [go_sem]) (by simp -implicitDefEqProofs only [go_sem]) (by simp -implicitDefEqProofs only [go_sem]) ?_
    simp -implicitDefEqProofs only [go_sem]
    refine ⟨k + 1, hlt, by omega, zfq 0 832 ?_⟩
    simp -implicitDefEqProofs only [go_sem]
    rw [zan (by omega)]
   ·simp -implicitDefEqProofs only [go_sem, hlt]
    exact Or.inl (by rw [List.take_of_length_le (by omega)])
end Go.Proofs.YtnkagnjiljjpcaaGreat
namespace Go.Proofs.YtnkagnjiljjpcaaGreat
set_option linter.unusedSimpArgs false
set_option linter.unusedVariables false
set_option linter.unusedSectionVars false
set_option maxRecDepth 4000
open Go.RowKit
theorem zp8 {a x : Tm} (h : x ∈ a.args) : x.wt <= a.wt := by
 have := Tm.wt_eq a
 have := zb1 Tm.wt a.args x h
 omega
def mnL (most : Int) : Int -> List (Int -> Int) -> Int
 | n, [] => n
 | n, r :: rs => if n <= most then mnL most (n + r (most - n)) rs else n
theorem zr9 {α : Type} (f : α -> Int -> Int) (g : α -> Nat) (most : Int) : ∀ (xs : List α) (n : Int), 0 <= n -> (∀ x ∈ xs, ∀ m, 0 <= m -> 1 <= f x m /\ f x m <= g x /\ (f x m <= m -> f x m = g x)) -> mnL most n (xs.map f) <= n + (xs.map g).sum /\ n <= mnL most n (xs.map f) /\ (mnL most n (xs.map f) <= most -> mnL most n (xs.map f) = n + (xs.map g).sum)
 | [], n, _, _ => by simp [mnL]
 | x :: xs, n, hn, h => by
  simp only [List.map_cons, mnL, List.sum_cons]
  split
  ·obtain ⟨h1, h2, h3⟩ := h x (by simp) (most - n) (by omega)
   obtain ⟨k1, k2, k3⟩ := zr9 f g most xs (n + f x (most - n)) (by omega) fun y hy => h y (by simp [hy])
   refine ⟨by omega, by omega, fun hh => ?_⟩
   have := k3 hh
   have : f x (most - n) = g x := h3 (by omega)
   omega
  ·refine ⟨by omega, by omega, fun hh => by omega⟩
def zdq : Tm -> Int -> Int := Tm.fold fun _ _ rs m => mnL m 1 rs
theorem zuc (a : Tm) (m : Int) : zdq a m = mnL m 1 (a.args.map zdq) := congrFun (Tm.fold_eq _ a) m
theorem zkn : ∀ (a : Tm) (m : Int), 0 <= m -> 1 <= zdq a m /\ zdq a m <= a.nodes /\ (zdq a m <= m -> zdq a m = a.nodes) := by
 refine za7 fun b0 xs ih m hm => ?_
 rw [zuc, Tm.nodes_eq]
 show 1 <= mnL m 1 (xs.map zdq) /\ mnL m 1 (xs.map zdq) <= ((1 + (xs.map Tm.nodes).sum : Nat) : Int) /\ (mnL m 1 (xs.map zdq) <= m -> mnL m 1 (xs.map zdq) = ((1 + (xs.map Tm.nodes).sum : Nat) : Int))
 obtain ⟨k1, k2, k3⟩ := zr9 zdq Tm.nodes m xs 1 (by omega) ih
 refine ⟨k2, by omega, fun h => ?_⟩
 have := k3 h
 omega
theorem qge (a : Tm) (m : Nat) : decide (zdq a m <= m) = decide (a.nodes <= m) := by
 obtain ⟨h1, h2, h3⟩ := zkn a m (by omega)
 rw [decide_eq_decide]
 exact ⟨fun h => by have := h3 h; omega, fun h => by omega⟩
set_option maxHeartbeats 400000 in
theorem qbc (a : Tm) (hs : a.wt <= 1099511627776) (H : ∀ x ∈ a.args, ∀ m : Int, 0 <= m -> m <= 1099511627776 -> FC Tryz.prog 156 [tmD x, iD m] [iD (zdq x m)]) (m : Int) (h0 : 0 <= m) (h1 : m <= 1099511627776) : FC Tryz.prog 156 [tmD a, iD m] [iD (zdq a m)] := by
 have hl : a.args.length <= 9223372036854775807 := by rw [Tm.wt_eq] at hs; omega
 have hn := zfr a
 have hN := a.nodes_eq
 simp only [tmD, zaa]
 refine zaq Tryz.call156 Tryz.func156 rfl (by kernel_rfl) (za4 (by kernel_rfl)) ?_
 simp -implicitDefEqProofs only [go_sem, Tryz.results156]
 refine zag (fun p : Nat × Int => hd [(1, vI m), (2, .one (.bx 2 0)), (5, vI p.2), (6, vI p.1)] [(2, [.t (.str a.name), .t (tmS a.args)])] []) (fun p => p.1 <= a.args.length /\ zdq a m = mnL m p.2 ((a.args.drop p.1).map zdq) /\ 1 <= p.2 /\ p.2 + qkp Tm.nodes a.args p.1 <= a.nodes) (fun p => a.args.length - p.1) (0, 1) (zab ?_) ?_ ?_
 ·simp -implicitDefEqProofs only [go_sem]
 ·exact ⟨by simp, by rw [zuc]; rfl, by omega, by rw [zng]; omega⟩
 ·intro ⟨k, n⟩ ⟨hk, hr, h2, h3⟩
  simp only at hk hr h2 h3
  by_cases hlt : k < a.args.length
  ·have hd := zzg Tm.nodes a.args k hlt
   rw [List.drop_eq_getElem_cons hlt, List.map_cons, mnL] at hr
   simp -implicitDefEqProofs only [go_sem, zai, hlt, zaa]
   refine ⟨fun h => ?_, fun h => ?_⟩
   ·have hle : n <= m := by simpa using h
    obtain ⟨s1, s2, s3⟩ := zkn a.args[k] (m - n) (by omega)
    rw [zbt (n := m - n) (by omega) (by omega)]
    refine callF (H a.args[k] (List.getElem_mem hlt) (m - n) (by omega) (by omega)) (by simp -implicitDefEqProofs only [go_sem, zaa]) ?_
    simp -implicitDefEqProofs only [go_sem, zaa]
    rw [if_pos hle] at hr
    exact ⟨(k + 1, n + zdq a.args[k] (m - n)), ⟨hlt, hr, by simp only; omega, by simp only; omega⟩, by simp only; omega, zab (by simp -implicitDefEqProofs only [go_sem]; rw [zan (by omega), zbt (by omega) (by omega)]; exact ⟨rfl, rfl⟩)⟩
   ·rw [hr, if_neg (by simpa using h)]
  ·simp -implicitDefEqProofs only [go_sem, hlt]
   rw [hr, List.drop_of_length_le (by omega)]; rfl
theorem qef : ∀ a : Tm, a.wt <= 1099511627776 -> ∀ m : Int, 0 <= m -> m <= 1099511627776 -> FC Tryz.prog 156 [tmD a, iD m] [iD (zdq a m)] :=
 za7 fun b0 xs ih hs => qbc (.mk b0 xs) hs fun x hx => ih x hx (Nat.le_trans (zp8 (a := .mk b0 xs) hx) hs)
end Go.Proofs.YtnkagnjiljjpcaaGreat
namespace Go.Proofs.YtnkagnjiljjpcaaGreat
set_option linter.unusedSimpArgs false
set_option linter.unusedVariables false
set_option linter.unusedSectionVars false
set_option maxRecDepth 4000
open Go.RowKit
set_option maxHeartbeats 400000 in
theorem zv5 (a : Tm) (hs : a.wt <= 1099511627776) (H : ∀ x ∈ a.args, FC Tryz.prog 53 [tmD x] [iD x.depth]) : FC Tryz.prog 53 [tmD a] [iD a.depth] := by
 have hl : a.args.length <= 9223372036854775807 := by rw [Tm.wt_eq] at hs; omega
 have hn := zfr a
 have hdn := ziy a
 have hD := a.depth_eq
 simp only [tmD, zaa]
 refine zaq Tryz.call53 Tryz.func53 rfl (by kernel_rfl) (za4 (by kernel_rfl)) ?_
 simp -implicitDefEqProofs only [go_sem, Tryz.results53]
 refine zag (fun p : Nat × Nat => hd [(1, .one (.bx 1 0)), (3, vI p.2), (4, vI p.1)] [(1, [.t (.str a.name), .t (tmS a.args)])] []) (fun p => p.1 <= a.args.length /\ a.depth = ((a.args.drop p.1).map Tm.depth).foldl max p.2 + 1) (fun p => a.args.length - p.1) (0, 0) (zab ?_) ?_ ?_
 ·simp -implicitDefEqProofs only [go_sem]
 ·exact ⟨by simp, hD⟩
 ·intro ⟨k, n⟩ ⟨hk, hr⟩
  simp only at hk hr
  by_cases hlt : k < a.args.length
  ·rw [List.drop_eq_getElem_cons hlt, List.map_cons, List.foldl_cons] at hr
   simp -implicitDefEqProofs only [go_sem, zai, hlt, zaa]
   refine callF (H a.args[k] (List.getElem_mem hlt)) (by simp -implicitDefEqProofs only [go_sem, zaa]) ?_
   simp -implicitDefEqProofs only [go_sem, zaa]
   refine callF (qez n a.args[k].depth) (by simp -implicitDefEqProofs only [go_sem, zaa]) ?_
   simp -implicitDefEqProofs only [go_sem, zaa]
   exact ⟨(k + 1, max n a.args[k].depth), ⟨hlt, hr⟩, by simp only; omega, zab (by simp -implicitDefEqProofs only [go_sem]; rw [zan (by omega)]; exact ⟨by congr 1; omega, rfl⟩)⟩
  ·simp -implicitDefEqProofs only [go_sem, hlt]
   rw [List.drop_of_length_le (by omega)] at hr
   simp only [List.map_nil, List.foldl_nil] at hr
   rw [hr, zan (by omega)]
theorem zxy : ∀ a : Tm, a.wt <= 1099511627776 -> FC Tryz.prog 53 [tmD a] [iD a.depth] :=
 za7 fun n xs ih hs => zv5 (.mk n xs) hs fun x hx => ih x hx (Nat.le_trans (zp8 (a := .mk n xs) hx) hs)
theorem zto (a : Tm) (hs : a.wt <= 1099511627776) : FC Tryz.prog 104 [tmD a] [bD (zcs a)] := by
 simp only [tmD, zaa]
 refine zaq Tryz.call104 Tryz.func104 rfl (by kernel_rfl) (za4 (by kernel_rfl)) ?_
 simp -implicitDefEqProofs only [go_sem, Tryz.results104]
 refine callF (qef a hs 30 (by omega) (by omega)) (by simp -implicitDefEqProofs only [go_sem, zaa]) ?_
 simp -implicitDefEqProofs only [go_sem, zaa]
 rw [show decide (zdq a 30 <= 30) = decide (a.nodes <= 30) from qge a 30]
 refine ⟨fun h => ?_, fun h => ?_⟩
 ·refine callF (zxy a hs) (by simp -implicitDefEqProofs only [go_sem, zaa]) ?_
  simp -implicitDefEqProofs only [go_sem, zaa]
  rw [zcs, h, Bool.true_and]
  congr 1
  rw [decide_eq_decide]; omega
 ·rw [zcs, h]; rfl
theorem zvt (a : Tm) (H : ∀ x ∈ a.args, FC Tryz.prog 105 [tmD x] [bD x.names]) : FC Tryz.prog 105 [tmD a] [bD a.names] := by
 refine zcn (fun hw => ?_) Tryz.call105
 have hl : a.args.length <= 9223372036854775807 := by simp only [tmD, zaa] at hw; simp [zfj, wfT, zn9] at hw; exact hw.2.1
 have hN := a.names_eq
 simp only [tmD, zaa]
 refine zaq Tryz.call105 Tryz.func105 rfl (by kernel_rfl) (za4 (by kernel_rfl)) ?_
 simp -implicitDefEqProofs only [go_sem, Tryz.results105]
 refine callF (zik a.name) (by simp -implicitDefEqProofs only [go_sem]) ?_
 simp -implicitDefEqProofs only [go_sem]
 refine ⟨fun h => ?_, fun h => ?_⟩
 ·rw [hN, if_pos h]
  congr 1
  rw [Bool.eq_iff_iff]; simp
 ·rw [h] at hN
  simp only [Bool.false_eq_true, if_false] at hN
  refine callF (zkd a.name) (by simp -implicitDefEqProofs only [go_sem]) ?_
  simp -implicitDefEqProofs only [go_sem]
  by_cases hy : zb4 a.name = true
  ·by_cases h4 : a.args.length <= 4
   ·rw [hy, show decide (a.args.length <= 4) = true by simpa using h4, Bool.true_and, Bool.true_and] at hN
    refine ⟨fun _ => ⟨fun h => by simp at h; omega, fun _ => ?_⟩, fun h => by simp [hy] at h⟩
    refine zag (fun k : Nat => hd [(1, .one (.bx 1 0)), (3, vI k)] [(1, [.t (.str a.name), .t (tmS a.args)])] []) (fun k => k <= a.args.length /\ a.names = (a.args.drop k).all Tm.names) (fun k => a.args.length - k) 0 (zab ?_) ?_ ?_
    ·simp -implicitDefEqProofs only [go_sem]
    ·exact ⟨by simp, hN⟩
    ·intro k ⟨hk, hr⟩
     by_cases hlt : k < a.args.length
     ·rw [List.drop_eq_getElem_cons hlt, List.all_cons] at hr
      simp -implicitDefEqProofs only [go_sem, zai, hlt, zaa]
      refine callF (H a.args[k] (List.getElem_mem hlt)) (by simp -implicitDefEqProofs only [go_sem, zaa]) ?_
      simp -implicitDefEqProofs only [go_sem, zaa]
      refine ⟨fun h => ?_, fun h => ⟨k + 1, ⟨hlt, ?_⟩, by omega, zab (by simp -implicitDefEqProofs only [go_sem]; rw [zan (by omega)])⟩⟩
      ·rw [hr, show a.args[k].names = false by simpa using h]; rfl
      ·rw [hr, show a.args[k].names = true by simpa using h]; rfl
     ·simp -implicitDefEqProofs only [go_sem, hlt]
      rw [hr, List.drop_of_length_le (by omega)]; rfl
   ·refine ⟨fun _ => ⟨fun _ => ?_, fun h => by simp at h; omega⟩, fun h => by simp [hy] at h⟩
    rw [hN, show decide (a.args.length <= 4) = false by simpa using h4, Bool.and_false]; rfl
  ·have hy' : zb4 a.name = false := by simpa using hy
   refine ⟨fun h => by simp [hy'] at h, fun _ => ?_⟩
   rw [hN, hy']; rfl
theorem zif : ∀ a : Tm, FC Tryz.prog 105 [tmD a] [bD a.names] := za7 fun n xs ih => zvt (.mk n xs) ih
theorem zly (a : Tm) (hs : a.wt <= 1099511627776) : FC Tryz.prog 55 [tmD a] [bD a.good] := by
 simp only [tmD, zaa]
 refine zaq Tryz.call55 Tryz.func55 rfl (by kernel_rfl) (za4 (by kernel_rfl)) ?_
 simp -implicitDefEqProofs only [go_sem, Tryz.results55]
 refine callF (zto a hs) (by simp -implicitDefEqProofs only [go_sem, zaa]) ?_
 simp -implicitDefEqProofs only [go_sem, zaa]
 refine ⟨fun h => ?_, fun h => ?_⟩
 ·refine callF (zif a) (by simp -implicitDefEqProofs only [go_sem, zaa]) ?_
  simp -implicitDefEqProofs only [go_sem, zaa]
  rw [Tm.good, h, Bool.true_and]
 ·rw [Tm.good, h, Bool.false_and]
theorem ztg (a : Tm) (hs : a.wt <= 1099511627776) : FC Tryz.prog 116 [tmD a] [bD a.atomOk] := by
 have hN : a.atomOk = if (a.name == [61]) = true then decide (a.args.length = 2) && zcs a && a.args.all Tm.names else zb4 a.name && a.good := rfl
 simp only [tmD, zaa]
 refine zaq Tryz.call116 Tryz.func116 rfl (by kernel_rfl) (za4 (by kernel_rfl)) ?_
 simp -implicitDefEqProofs only [go_sem, Tryz.results116]
 refine ⟨fun h => ?_, fun h => ?_⟩
 ·rw [if_pos h] at hN
  by_cases h2 : a.args.length = 2
  ·have k0 : 0 < a.args.length := by omega
   have k1 : 1 < a.args.length := by omega
   have e2 : ((a.args.length : Int) == 2) = true := by simp [h2]
   have l0 : (0 : Int) < a.args.length := by omega
   have l1 : (1 : Int) < a.args.length := by omega
   rw [zwy h2, show decide (a.args.length = 2) = true by simp [h2]] at hN
   simp only [Bool.true_and] at hN
   simp only [e2, qa6, zeb, qin, zdl, and_true]
   refine callF (zto a hs) (by simp -implicitDefEqProofs only [go_sem, zaa, l0, zai, k0]) ?_
   simp -implicitDefEqProofs only [go_sem, zaa, l0, zai, k0]
   refine ⟨fun h3 => ?_, fun h3 => ?_⟩
   ·refine callF (zif a.args[0]) (by simp -implicitDefEqProofs only [go_sem, zaa, l1, zai, k1]) ?_
    simp -implicitDefEqProofs only [go_sem, zaa, l1, zai, k1]
    refine ⟨fun h4 => ?_, fun h4 => ?_⟩
    ·refine callF (zif a.args[1]) (by simp -implicitDefEqProofs only [go_sem, zaa]) ?_
     simp -implicitDefEqProofs only [go_sem, zaa]
     rw [hN, h3, h4]; rfl
    ·rw [hN, h3, h4]; rfl
   ·rw [hN, h3]; rfl
  ·have e2 : ((a.args.length : Int) == 2) = false := by simp; omega
   simp only [e2, qa6, qkk, zeb, zdl, and_true, true_and, qj2]
   rw [hN, show decide (a.args.length = 2) = false by simpa using h2]; rfl
 ·rw [h] at hN
  simp only [Bool.false_eq_true, if_false] at hN
  refine callF (zkd a.name) (by simp -implicitDefEqProofs only [go_sem]) ?_
  simp -implicitDefEqProofs only [go_sem]
  refine ⟨fun h3 => ?_, fun h3 => ?_⟩
  ·refine callF (zly a hs) (by simp -implicitDefEqProofs only [go_sem, zaa]) ?_
   simp -implicitDefEqProofs only [go_sem, zaa]
   rw [hN, h3, Bool.true_and]
  ·rw [hN, h3, Bool.false_and]
end Go.Proofs.YtnkagnjiljjpcaaGreat
namespace Go.Proofs.YtnkagnjiljjpcaaGreat
set_option linter.unusedSimpArgs false
set_option linter.unusedVariables false
set_option linter.unusedSectionVars false
set_option maxRecDepth 4000
open Go.RowKit
theorem zui : ∀ a : Tm, a.wt <= 1099511627776 -> ∀ ys : List Str, ys.length + (voS a).length <= 1073741824 -> GC Tryz.prog 136 [(true, .one (zd3 ys)), (false, tmD a)] [.one (zd3 (zb7 ys (voS a)))] :=
 za7 fun n xs ih hw ys hs => qcg (.mk n xs) (fun x hx ys hs => ih x hx (Nat.le_trans (zp8 (a := .mk n xs) hx) hw) ys hs) ys hs (by have := Tm.wt_eq (.mk n xs); omega)
theorem qd8 (a : Tm) (hw : a.wt <= 1099511627776) (hs : (voS a).length <= 1073741824) : FC Tryz.prog 165 [tmD a] [.one (zd3 (zb7 [] (voS a)))] := by
 have HC := zui a hw [] (by simpa using hs)
 simp only [tmD, zaa] at HC ⊢
 refine zda Tryz.call165 Tryz.func165 rfl (by kernel_rfl) (za4 (by kernel_rfl)) ?_
 simp -implicitDefEqProofs only [go_sem, Tryz.results165]
 refine zcd (by simp -implicitDefEqProofs only [go_sem]) ?_
 simp -implicitDefEqProofs only [go_sem]
 refine ze7 [] [3, 4] [] (HC) (by simp -implicitDefEqProofs only [go_sem]) (by simp -implicitDefEqProofs only [go_sem]) (by simp -implicitDefEqProofs only [go_sem]) (by simp -implicitDefEqProofs only [go_sem]) ?_
 simp -implicitDefEqProofs only [go_sem]
theorem zmb {s : Str} (h : zay s = true) : zhn (s.getD 0 0) = true /\ 0 < s.length := by
 unfold zay at h
 rw [Bool.and_eq_true] at h
 cases s with
 | nil => exact absurd h.2 (by decide)
 | cons b s =>
  have := zsx (s := b :: s) (by simp)
  rw [h.1] at this
  have := (Bool.and_eq_true _ _).mp this.symm
  exact ⟨this.1, by simp⟩
theorem up_low {b : UInt8} (h : zeg b = true) : zhn b = false := by
 unfold zeg zhn at *
 simp only [Bool.and_eq_true, decide_eq_true_eq, Bool.and_eq_false_iff, decide_eq_false_iff_not] at *
 omega
theorem zi4 {s : Str} (h : zb4 s = true) : zhn (s.getD 0 0) = false /\ 0 < s.length := by
 unfold zb4 at h
 simp only [Bool.and_eq_true] at h
 cases s with
 | nil => exact absurd h.1.2 (by decide)
 | cons b s =>
  have := zop (s := b :: s) (by simp)
  rw [h.1.1] at this
  have := (Bool.and_eq_true _ _).mp this.symm
  exact ⟨up_low this.1, by simp⟩
theorem zmf : ∀ a : Tm, a.names = true -> voI a = voS a /\ a.ne = true := za7 fun n xs ih h => by
 rw [Tm.names_eq] at h
 rw [zty, zo2, Tm.ne_eq']
 change (if zay n = true then decide (xs.length = 0) else zb4 n && decide (xs.length <= 4) && xs.all Tm.names) = true at h
 change (if (decide (xs.length = 0) && zhn (n.getD 0 0)) = true then [n] else (xs.map voI).flatten) = (if zay n = true then [n] else (xs.map voS).flatten) /\ ((!decide (xs.length = 0) || decide (0 < n.length)) && xs.all Tm.ne) = true
 change ∀ x ∈ xs, _ at ih
 by_cases hv : zay n = true
 ·rw [if_pos hv] at h ⊢
  obtain ⟨h1, h2⟩ := zmb hv
  have h : xs.length = 0 := of_decide_eq_true h
  have hx : xs = [] := List.length_eq_zero_iff.1 h
  subst hx
  rw [h1]
  exact ⟨rfl, by simp [h2]⟩
 ·rw [if_neg hv] at h ⊢
  simp only [Bool.and_eq_true] at h
  obtain ⟨h1, h2⟩ := zi4 h.1.1
  rw [h1, Bool.and_false, if_neg (by simp)]
  have hI := fun x hx => ih x hx (List.all_eq_true.1 h.2 x hx)
  refine ⟨by rw [List.map_congr_left fun x hx => (hI x hx).1], ?_⟩
  rw [Bool.and_eq_true]
  exact ⟨by simp [h2], List.all_eq_true.2 fun x hx => (hI x hx).2⟩
theorem zxl {a : Tm} (h : a.atomOk = true) : voI a = voS a /\ a.ne = true := by
 unfold Tm.atomOk at h
 split at h
 ·rename_i he
  have he : a.name = [61] := by simpa using he
  simp only [Bool.and_eq_true, decide_eq_true_eq] at h
  rw [zty, zo2, Tm.ne_eq', he]
  have hI := fun x hx => zmf x (List.all_eq_true.1 h.2 x hx)
  rw [show zhn (([61] : Str).getD 0 0) = false by decide, show zay [61] = false by decide, Bool.and_false, if_neg (by simp), if_neg (by simp)]
  refine ⟨by rw [List.map_congr_left fun x hx => (hI x hx).1], ?_⟩
  rw [Bool.and_eq_true]
  exact ⟨by simp, List.all_eq_true.2 fun x hx => (hI x hx).2⟩
 ·simp only [Bool.and_eq_true] at h
  have := h.2
  unfold Tm.good at this
  rw [Bool.and_eq_true] at this
  exact zmf a this.2
end Go.Proofs.YtnkagnjiljjpcaaGreat
namespace Go.Proofs.YtnkagnjiljjpcaaGreat
set_option linter.unusedSimpArgs false
set_option linter.unusedVariables false
set_option linter.unusedSectionVars false
set_option maxRecDepth 4000
open Go.RowKit
theorem zyd (s : Str) : FC Tryz.prog 149 [sD s] [bD false] := by
 refine zaq Tryz.call149 Tryz.func149 rfl (by kernel_rfl) (za4 (by kernel_rfl)) ?_
 simp -implicitDefEqProofs only [go_sem, Tryz.results149]
 simp
def zm8 (s t : Str) : Int := if Op.bytesLess s t = true then -1 else if (s == t) = true then 0 else 1
theorem qdl (s t : Str) : FC Tryz.prog 92 [sD s, sD t] [iD (zm8 s t)] := by
 have hc : zm8 s t = if Op.bytesLess s t = true then -1 else if (s == t) = true then 0 else 1 := rfl
 refine zaq Tryz.call92 Tryz.func92 rfl (by kernel_rfl) (za4 (by kernel_rfl)) ?_
 simp -implicitDefEqProofs only [go_sem, Tryz.results92]
 refine callF (zyd s) (by simp -implicitDefEqProofs only [go_sem]) ?_
 simp -implicitDefEqProofs only [go_sem]
 refine callF (zyd t) (by simp -implicitDefEqProofs only [go_sem]) ?_
 simp -implicitDefEqProofs only [go_sem]
 refine ⟨fun h => by rw [hc, if_pos h], fun h => ⟨fun h2 => ?_, fun h2 => ?_⟩⟩
 ·rw [h, Bool.false_or, Bool.not_eq_true'] at h2
  rw [hc, h, h2]; rfl
 ·rw [h, Bool.false_or, Bool.not_eq_false'] at h2
  rw [hc, h, h2]; rfl
def bnC (p : Str × Tm) : List T := .str p.1 :: tmC p.2
def sbS (l : List (Str × Tm)) : T := .sl 3 (l.map bnC)
theorem zuj (n : Str) (t : Tm) : bnC (n, t) = [.str n, .str t.name, .sl 2 (t.args.map tmC)] := by unfold bnC; rw [zaa]
end Go.Proofs.YtnkagnjiljjpcaaGreat
namespace Go.Proofs.YtnkagnjiljjpcaaGreat
set_option linter.unusedSimpArgs false
set_option linter.unusedVariables false
set_option linter.unusedSectionVars false
set_option maxRecDepth 4000
open Go.RowKit
def eqL {α : Type} (p : α -> α -> Bool) : List α -> List α -> Bool
 | [], [] => true
 | a :: xs, b :: ys => p a b && eqL p xs ys
 | _, _ => false
theorem zqd {α : Type} {p : α -> α -> Bool} : ∀ {xs ys : List α}, xs.length ≠ ys.length -> eqL p xs ys = false
 | [], [], h => absurd rfl h
 | [], _ :: _, _ => rfl
 | _ :: _, [], _ => rfl
 | a :: xs, b :: ys, h => by simp only [eqL]; rw [zqd (by simpa using h), Bool.and_false]
theorem zmq {α : Type} {p : α -> α -> Bool} : ∀ {xs ys : List α}, (∀ x ∈ xs, ∀ y, p x y = same x y) -> eqL p xs ys = same xs ys
 | [], [], _ => zga.symm
 | [], _ :: _, _ => (zci.2 (by simp)).symm
 | _ :: _, [], _ => (zci.2 (by simp)).symm
 | a :: xs, b :: ys, h => by simp only [eqL]; rw [zb9, h a (by simp) b, zmq fun x hx y => h x (by simp [hx]) y]
set_option maxRecDepth 10000 in
set_option maxHeartbeats 400000 in
theorem zi2 (xs ys : List Tm) (p : Tm -> Tm -> Bool) (g : FuncId) (caps : List T) (H : ∀ x ∈ xs, ∀ y ∈ ys, FC Tryz.prog g (tmD x :: tmD y :: caps.map .one) [bD (p x y)]) : FC Tryz.prog 137 [.one (tmS xs), .one (tmS ys), .one (.fn g caps)] [bD (eqL p xs ys)] := by
 refine zcn (fun hw => ?_) Tryz.call137
 have hl : xs.length <= 9223372036854775807 := by simpa [zfj, wfT] using hw.1.1
 have hl2 : ys.length <= 9223372036854775807 := by simpa [zfj, wfT] using hw.2.1.1
 refine zaq Tryz.call137 Tryz.func137 rfl (by kernel_rfl) (za4 (by kernel_rfl)) ?_
 simp -implicitDefEqProofs only [go_sem, Tryz.results137]
 refine ⟨fun h => ?_, fun h => ?_⟩
 ·rw [zqd (by rintro e; simp [e] at h)]
 ·have hlen : xs.length = ys.length := by simp at h; omega
  refine zag (fun k : Nat => hd [(1, vT (tmS ys)), (2, .one (.t (.fn g caps))), (15, vT (tmS xs)), (16, vI xs.length), (17, vI k)] [] []) (fun k => k <= xs.length /\ eqL p xs ys = eqL p (xs.drop k) (ys.drop k)) (fun k => xs.length - k) 0 (zab ?_) ?_ ?_
  ·simp -implicitDefEqProofs only [go_sem]
  ·simp
  ·intro k ⟨hk, hr⟩
   by_cases hlt : k < xs.length
   ·have hk2 : k < ys.length := by omega
    simp -implicitDefEqProofs only [go_sem, List.length_map, zai, hlt, hk2, zaa]
    refine callF (H xs[k] (List.getElem_mem hlt) ys[k] (List.getElem_mem hk2)) (by simp -implicitDefEqProofs only [go_sem, zaa]) ?_
    simp -implicitDefEqProofs only [go_sem, zaa]
    rw [List.drop_eq_getElem_cons hlt, List.drop_eq_getElem_cons hk2, eqL] at hr
    refine ⟨fun h => ?_, fun h => ?_⟩
    ·rw [hr, show p xs[k] ys[k] = false by simpa using h]; rfl
    ·rw [show p xs[k] ys[k] = true by simpa using h, Bool.true_and] at hr
     rw [zan (by omega)]
     exact ⟨k + 1, ⟨by omega, hr⟩, by omega, zab (by simp -implicitDefEqProofs only [go_sem])⟩
   ·simp -implicitDefEqProofs only [go_sem, List.length_map, hlt]
    rw [hr, List.drop_of_length_le (by omega), List.drop_of_length_le (by omega)]; rfl
end Go.Proofs.YtnkagnjiljjpcaaGreat
namespace Go.Proofs.YtnkagnjiljjpcaaGreat
set_option linter.unusedSimpArgs false
set_option linter.unusedVariables false
set_option linter.unusedSectionVars false
set_option maxRecDepth 4000
open Go.RowKit
theorem zjm (a b : Tm) : same a b = (same a.name b.name && same a.args b.args) := by
 cases a; cases b
 rw [Bool.eq_iff_iff]
 simp only [Bool.and_eq_true, zbj, Tm.name, Tm.args, Tm.mk.injEq]
theorem zdv {α : Type} [BEq α] [LawfulBEq α] (a b : α) : (a == b) = same a b := by
 rw [Bool.eq_iff_iff, beq_iff_eq, zbj]
theorem zwb (a b : Tm) (H : FC Tryz.prog 137 [.one (tmS a.args), .one (tmS b.args), .one (.fn 86 [])] [bD (same a.args b.args)]) :
  FC Tryz.prog 86 [tmD a, tmD b] [bD (same a b)] := by
 simp only [tmD, zaa]
 refine zaq Tryz.call86 Tryz.func86 rfl (by kernel_rfl) (za4 (by kernel_rfl)) ?_
 simp -implicitDefEqProofs only [go_sem, Tryz.results86]
 refine ⟨fun h => ?_, fun h => ?_⟩
 ·refine callF (H) (by simp -implicitDefEqProofs only [go_sem]) ?_
  simp -implicitDefEqProofs only [go_sem]
  rw [zjm, <- zdv a.name, h, Bool.true_and]
 ·rw [zjm, <- zdv a.name, h]; rfl
theorem znr : ∀ a b : Tm, FC Tryz.prog 86 [tmD a, tmD b] [bD (same a b)] :=
 za7 fun n xs ih b => zwb (.mk n xs) b (by
  rw [show same (Tm.mk n xs).args b.args = eqL same (Tm.mk n xs).args b.args from (zmq fun _ _ _ => rfl).symm]
  exact zi2 xs b.args same _ [] fun x hx y _ => ih x hx y)
theorem qau (a b : Tm) (H : ∀ x ∈ a.args, ∀ y, FC Tryz.prog 103 [tmD x, tmD y] [bD (same x y)]) : FC Tryz.prog 103 [tmD a, tmD b] [bD (same a b)] := by
 refine zcn (fun hw => ?_) Tryz.call103
 simp only [tmD, zaa] at hw ⊢
 have hl : a.args.length <= 9223372036854775807 := by simp [zfj, wfT, zn9] at hw; exact hw.1.2.1
 refine zaq Tryz.call103 Tryz.func103 rfl (by kernel_rfl) (za4 (by kernel_rfl)) ?_
 simp -implicitDefEqProofs only [go_sem, Tryz.results103]
 refine ⟨fun h1 => ?_, fun h1 => by rw [zjm, <- zdv a.name, show (a.name == b.name) = false by simpa using h1]; rfl⟩
 have h1' : same a.name b.name = true := by rw [<- zdv]; simpa using h1
 refine ⟨fun h2 => ?_, fun h2 => ?_⟩
 ·rw [zjm, h1', Bool.true_and, zci.2 (by rintro e; simp [e] at h2)]
 have hlen : a.args.length = b.args.length := by simp at h2; omega
 have hs : same a b = same a.args b.args := by rw [zjm, h1', Bool.true_and]
 refine zag (fun k : Nat => hd [(2, .one (.bx 2 0)), (3, .one (.bx 3 0)), (4, vB false), (5, vI k)] [(2, [.t (.str a.name), .t (tmS a.args)]), (3, [.t (.str b.name), .t (tmS b.args)])] []) (fun k => k <= a.args.length /\ same a.args b.args = same (a.args.drop k) (b.args.drop k)) (fun k => a.args.length - k) 0 (zab ?_) ?_ ?_
 ·simp -implicitDefEqProofs only [go_sem]
 ·simp
 ·intro k ⟨hk, hr⟩
  by_cases hlt : k < a.args.length
  ·have hk2 : k < b.args.length := by omega
   simp -implicitDefEqProofs only [go_sem, hlt]
   refine drawn (by kernel_rfl) ?_
   simp -implicitDefEqProofs only [go_sem, zai, hlt, hk2, zaa]
   refine zax (H a.args[k] (List.getElem_mem hlt) b.args[k]) (by simp -implicitDefEqProofs only [go_sem, zaa]) ?_
   simp -implicitDefEqProofs only [go_sem, zaa]
   rw [List.drop_eq_getElem_cons hlt, List.drop_eq_getElem_cons hk2, zb9] at hr
   refine ⟨by kernel_rfl, fun h => ?_, fun h => ?_⟩
   ·rw [hs, hr, show same a.args[k] b.args[k] = false by simpa using h]; rfl
   ·rw [show same a.args[k] b.args[k] = true by simpa using h, Bool.true_and] at hr
    rw [zan (by omega)]
    exact ⟨k + 1, ⟨by omega, hr⟩, by omega, zab (by simp -implicitDefEqProofs only [go_sem])⟩
  ·simp -implicitDefEqProofs only [go_sem, hlt]
   rw [hs, hr, List.drop_of_length_le (by omega), List.drop_of_length_le (by omega), zga]
theorem qdo : ∀ a b : Tm, FC Tryz.prog 103 [tmD a, tmD b] [bD (same a b)] := za7 fun n xs ih b => qau (.mk n xs) b ih
end Go.Proofs.YtnkagnjiljjpcaaGreat
namespace Go.Proofs.YtnkagnjiljjpcaaGreat
set_option linter.unusedSimpArgs false
set_option linter.unusedVariables false
set_option linter.unusedSectionVars false
set_option maxRecDepth 4000
open Go.RowKit
def ze2 (l : List (Str × Tm)) : Tm -> Tm := Tm.fold fun m _ rs => if zay m = true then (match l.find? fun p => p.1 == m with | some p => p.2 | none => .mk m []) else .mk m rs
theorem zjr (l : List (Str × Tm)) (a : Tm) : ze2 l a = if zay a.name = true then (match l.find? fun p => p.1 == a.name with | some p => p.2 | none => .mk a.name []) else .mk a.name (a.args.map (ze2 l)) := by unfold ze2; rw [Tm.fold_eq]
end Go.Proofs.YtnkagnjiljjpcaaGreat
namespace Go.Proofs.YtnkagnjiljjpcaaGreat
set_option linter.unusedSimpArgs false
set_option linter.unusedVariables false
set_option linter.unusedSectionVars false
set_option maxRecDepth 4000
open Go.RowKit
theorem qke (l : List (Str × Tm)) (W : Nat) (hW : ∀ p ∈ l, p.2.wt <= W) : ∀ a : Tm, (ze2 l a).wt <= a.wt + a.nodes * W := za7 fun m xs ih => by
 rw [zjr, Tm.nodes_eq]
 show (if zay m = true then (match l.find? fun (p : Str × Tm) => p.1 == m with | some p => p.2 | none => .mk m []) else .mk m (xs.map (ze2 l))).wt <= (Tm.mk m xs).wt + (1 + (xs.map Tm.nodes).sum) * W
 have hs : (xs.map fun x => (ze2 l x).wt).sum <= (xs.map Tm.wt).sum + (xs.map Tm.nodes).sum * W := by
  revert ih
  induction xs with
  | nil => simp
  | cons x xs ih2 =>
   intro ih
   have h1 := ih x (by simp)
   have h2 := ih2 fun y hy => ih y (by simp [hy])
   simp only [List.map_cons, List.sum_cons, Nat.add_mul]
   omega
 have h0 := Tm.wt_eq (.mk m xs)
 have h0 : (Tm.mk m xs).wt = m.length + xs.length + (xs.map Tm.wt).sum := h0
 rw [Nat.add_mul, Nat.one_mul]
 split
 ·split
  ·rename_i p hp
   have := hW p (List.mem_of_find?_eq_some hp)
   omega
  ·have h1 := Tm.wt_eq (.mk m [])
   have h1 : (Tm.mk m []).wt = m.length + 0 + 0 := h1
   omega
 ·have h1 := Tm.wt_eq (.mk m (xs.map (ze2 l)))
  have h1 : (Tm.mk m (xs.map (ze2 l))).wt = m.length + (xs.map (ze2 l)).length + ((xs.map (ze2 l)).map Tm.wt).sum := h1
  rw [List.length_map, List.map_map] at h1
  have h2 : (xs.map (Tm.wt ∘ ze2 l)).sum = (xs.map fun x => (ze2 l x).wt).sum := rfl
  omega
end Go.Proofs.YtnkagnjiljjpcaaGreat
namespace Go.Proofs.YtnkagnjiljjpcaaGreat
set_option linter.unusedSimpArgs false
set_option linter.unusedVariables false
set_option linter.unusedSectionVars false
set_option maxRecDepth 4000
open Go.RowKit
attribute [local go_sem] Oper.semAt_some
end Go.Proofs.YtnkagnjiljjpcaaGreat
namespace Go.Proofs.YtnkagnjiljjpcaaGreat
set_option linter.unusedSimpArgs false
set_option linter.unusedVariables false
set_option linter.unusedSectionVars false
set_option maxRecDepth 4000
open Go.RowKit
def mtd : Nat -> Nat -> Str -> Str
 | 0, _, acc => acc
 | fuel + 1, n, acc => if n = 0 then acc else mtd fuel (n / 10) (UInt8.ofNat (48 + n % 10) :: acc)
def mtx (k : Nat) : Str := 109 :: mtd (k + 1) k []
theorem zk9 (fuel n : Nat) (acc : Str) (h : 0 < n) : mtd (fuel + 1) n acc = mtd fuel (n / 10) (UInt8.ofNat (48 + n % 10) :: acc) := by rw [mtd, if_neg (by omega)]
theorem zsf : ∀ (f f' n : Nat) (acc : Str), n < f -> n < f' -> mtd f n acc = mtd f' n acc
 | 0, _, n, _, h, _ => absurd h (by omega)
 | _ + 1, 0, n, _, _, h => absurd h (by omega)
 | f + 1, f' + 1, n, acc, h, h' => by
  by_cases h0 : n = 0
  ·simp [mtd, h0]
  ·rw [zk9 _ _ _ (by omega), zk9 _ _ _ (by omega)]
   exact zsf f f' _ _ (by omega) (by omega)
theorem qiw {n : Nat} (h : n < 256) : IntKind.u8.wrap (n : Int) = n := by
 have e : IntKind.u8.wrap (n : Int) = (n : Int) % 256 := rfl
 rw [e]; omega
theorem zer (k : Nat) (hk0 : 0 < k) (hk : k <= 4611686018427387904) : FC Tryz.prog 42 [iD k] [sD (mtx k)] := by
 have h0 : ((k : Int) <= 0) = False := by simp; omega
 refine zaq Tryz.call42 Tryz.func42 rfl (by kernel_rfl) (za4 (by kernel_rfl)) ?_
 simp -implicitDefEqProofs only [go_sem, Tryz.results42, h0]
 refine zag (fun (x : Nat × Str) => hd [(0, vI x.1), (3, vT (.str x.2))] [] []) (fun x => mtx k = 109 :: mtd (x.1 + 1) x.1 x.2 /\ x.1 * 10 ^ x.2.length <= k /\ x.2.length <= 19) (fun x => x.1) (k, []) (zab ?_) ?_ ?_
 ·simp -implicitDefEqProofs only [go_sem]
 ·exact ⟨rfl, by simp, by simp⟩
 ·intro ⟨n, s⟩ ⟨h1, h2, hl⟩
  have hl : s.length <= 19 := hl
  have hn : n <= k := Nat.le_trans (Nat.le_mul_of_pos_right _ (Nat.pow_pos (by omega))) h2
  have hs : s.length <= 18 \/ n = 0 := by
   by_cases h : n = 0
   ·exact Or.inr h
   ·left
    refine Nat.le_of_not_lt fun hl => ?_
    have : 10 ^ 19 <= 10 ^ s.length := Nat.pow_le_pow_right (by omega) (by omega)
    have : 1 * 10 ^ s.length <= n * 10 ^ s.length := Nat.mul_le_mul_right _ (by omega)
    have h2 : n * 10 ^ s.length <= k := h2
    omega
  by_cases hp : 0 < n
  ·have hp' : ((n : Int) > 0) = True := by simp; omega
   have e1 : (n : Int).tmod 10 = ((n % 10 : Nat) : Int) := by rw [Int.tmod_eq_emod_of_nonneg (by omega)]; omega
   have e2 : (n : Int).tdiv 10 = ((n / 10 : Nat) : Int) := by rw [Int.tdiv_eq_ediv_of_nonneg (by omega)]; omega
   have e3 : IntKind.i64.wrap (48 + ((n % 10 : Nat) : Int)) = ((48 + n % 10 : Nat) : Int) := by rw [zbt (by omega) (by omega)]; omega
   have e4 : IntKind.u8.wrap ((48 + n % 10 : Nat) : Int) = ((48 + n % 10 : Nat) : Int) := qiw (by omega)
   have e5 : IntKind.i64.wrap ((n / 10 : Nat) : Int) = ((n / 10 : Nat) : Int) := zbt (by omega) (by omega)
   simp -implicitDefEqProofs only [go_sem, hp', e1, e2, e3, e4, e5]
   refine ⟨by omega, ?_⟩
   refine zcd (by simp -implicitDefEqProofs only [go_sem]) ?_
   simp -implicitDefEqProofs only [go_sem]
   have hs' : s.length <= 18 := by omega
   refine ⟨by omega, by omega, (n / 10, UInt8.ofNat (48 + n % 10) :: s), ⟨?_, ?_, show s.length + 1 <= 19 by omega⟩, by omega, zab (by simp -implicitDefEqProofs only [go_sem, e2, e5])⟩
   ·rw [h1]
    show (109 :: mtd (n + 1) n s : Str) = 109 :: mtd (n / 10 + 1) (n / 10) (UInt8.ofNat (48 + n % 10) :: s)
    rw [zk9 _ _ _ hp, zsf n (n / 10 + 1) _ _ (by omega) (by omega)]
   ·show n / 10 * 10 ^ (s.length + 1) <= k
    rw [Nat.pow_succ, Nat.mul_comm _ 10, <- Nat.mul_assoc]
    exact Nat.le_trans (Nat.mul_le_mul_right _ (by omega)) h2
  ·have h0' : n = 0 := by omega
   subst h0'
   simp -implicitDefEqProofs only [go_sem]
   refine ⟨by omega, ?_⟩
   rw [h1]; simp [mtd]
end Go.Proofs.YtnkagnjiljjpcaaGreat
namespace Go.Proofs.YtnkagnjiljjpcaaGreat
set_option linter.unusedSimpArgs false
set_option linter.unusedVariables false
set_option linter.unusedSectionVars false
set_option maxRecDepth 4000
open Go.RowKit
mutual
def zfa : Tm -> Nat -> Tm × Nat
 | .mk n0 s0, k => (.mk (mtx k) (za6 s0 (k + 1)).1, (za6 s0 (k + 1)).2)
def za6 : List Tm -> Nat -> List Tm × Nat
 | [], k => ([], k)
 | a :: xs, k => ((zfa a k).1 :: (za6 xs (zfa a k).2).1, (za6 xs (zfa a k).2).2)
end
mutual
def zf1 : Tm -> Nat
 | .mk n0 s0 => 1 + 1 + zcp s0
def zcp : List Tm -> Nat
 | [] => 0
 | a :: xs => zf1 a + zcp xs
end
mutual
theorem zwz : ∀ (a : Tm) (k : Nat), k <= (zfa a k).2 /\ (zfa a k).2 <= k + zf1 a
 | .mk n0 s0, k => by have h_s0 := zc9 s0 (k + 1); simp only [zfa, zf1]; omega
theorem zc9 : ∀ (xs : List Tm) (k : Nat), k <= (za6 xs k).2 /\ (za6 xs k).2 <= k + zcp xs
 | [], k => ⟨Nat.le_refl _, Nat.le_refl _⟩
 | a :: xs, k => by have h1 := zwz a k; have h2 := zc9 xs (zfa a k).2; simp only [za6, zcp]; omega
end
theorem zi5 : ∀ xs : List Tm, xs.length <= zcp xs
 | [] => Nat.le_refl _
 | a :: xs => by
  have := zi5 xs
  have : 1 <= zf1 a := by obtain ⟨n0, s0⟩ := a; simp only [zf1]; omega
  simp only [List.length_cons, zcp]; omega
theorem zg2 (xs : List Tm) (H : ∀ a ∈ xs, ∀ k : Nat, 0 < k -> k + zcp a.args <= 4611686018427387904 -> IC Tryz.prog 14 [] (.one (tmS a.args)) [iD k] (.one (tmS (za6 a.args k).1)) [iD (za6 a.args k).2]) :
  ∀ k : Nat, 0 < k -> k + zcp xs <= 4611686018427387904 -> IC Tryz.prog 14 [] (.one (tmS xs)) [iD k] (.one (tmS (za6 xs k).1)) [iD (za6 xs k).2] := by
 intro k h0 hk
 refine qa2 Tryz.call14 Tryz.func14 rfl (by kernel_rfl) (by simp only [zdg, rd, List.map_cons, List.map_nil, List.nil_append, List.length_cons, List.length_nil, Tryz.ntmps14]; omega) (by simp only [Tryz.ntmps14]; omega) (fun vs => ?_)
 simp -implicitDefEqProofs only [go_sem, Tryz.results14, qgb, znx, zdg, PI]
 refine zag (fun (x : List Tm × List Tm × Nat) => hd [(0, .one (.ow 0 0)), (1000000, .one (.ow 0 0)), (1, vI x.2.2), (5, vI x.1.length)] [] [(0, ⟨true, 2, x.1.map tmC ++ ze1 vs x.1.length (x.2.1.map tmC), 0, true⟩)])
  (fun x => (za6 xs k).1 = x.1 ++ (za6 x.2.1 x.2.2).1 /\ (za6 xs k).2 = (za6 x.2.1 x.2.2).2 /\ 0 < x.2.2 /\ x.2.2 + zcp x.2.1 <= 4611686018427387904 /\ x.1.length + x.2.1.length = xs.length /\ ∀ a ∈ x.2.1, a ∈ xs) (fun x => x.2.1.length) ([], xs, k) (zab ?_) ?_ ?_
 ·simp -implicitDefEqProofs only [go_sem]
 ·exact ⟨rfl, rfl, h0, hk, by simp, fun _ h => h⟩
 ·intro ⟨dn, rest, kk⟩ ⟨h1, h2, h3, h4, h6, h5⟩
  simp only at h1 h2 h3 h4 h5 h6
  cases rest with
  | nil =>
   simp only [za6, List.append_nil] at h1 h2
   simp -implicitDefEqProofs only [go_sem, h1, h2]
  | cons a rest =>
   obtain ⟨n0, s0⟩ := a
   simp only [za6, zfa, zcp, zf1] at h1 h2 h4
   have hc_s0 := zc9 s0 (kk + 1)
   have w0 : IntKind.i64.wrap (((kk : Nat) : Int) + 1) = ((kk + 1 : Nat) : Int) := zan (by omega)
   have hln := zi5 xs
   rw [List.length_cons] at h6
   have wl : IntKind.i64.wrap ((dn.length : Int) + 1) = ((dn.length + 1 : Nat) : Int) := zan (by omega)
   simp -implicitDefEqProofs only [go_sem, zaa (.mk _ _), Tm.name, Tm.args]
   refine callF (zer kk (by omega) (by omega)) (by simp -implicitDefEqProofs only [go_sem, w0]) ?_
   simp -implicitDefEqProofs only [go_sem, w0]
   refine zid (by simp -implicitDefEqProofs only [go_sem, implies_true, w0]) ?_
   simp -implicitDefEqProofs only [go_sem, implies_true, w0]
   refine callN (l := [(0, .one (.ow 0 0)), (1000000, .one (.ow 0 0)), (5, vI dn.length), (24, .one (.cv (vs dn.length 1))), (25, vI ((kk + 1) : Nat))]) (bl := []) (el := [(0, ⟨true, 2, dn.map tmC ++ [.str (mtx kk), .pin (vs dn.length 1) (tmS s0)] :: ze1 vs (dn.length + 1) (rest.map tmC), 0, true⟩)]) 0 dn.length 1 (H (.mk n0 s0) (h5 _ (by simp)) (kk + 1) (by omega) (by show (kk + 1) + zcp s0 <= _; omega)) (by simp -implicitDefEqProofs only [go_sem, w0, tmS]) rfl rfl rfl (by simp -implicitDefEqProofs only [go_sem, tmS, Tm.name, Tm.args]) rfl ?_
   simp -implicitDefEqProofs only [go_sem, w0, Tm.name, Tm.args]
   refine ⟨(dn ++ [.mk (mtx kk) (za6 s0 (kk + 1)).1], rest, (za6 s0 (kk + 1)).2), ⟨by simpa using h1, h2, by show 0 < (za6 s0 (kk + 1)).2; omega, by show (za6 s0 (kk + 1)).2 + zcp rest <= _; omega, by simp; omega, fun b hb => h5 b (by simp [hb])⟩, by simp, zab ?_⟩
   simp -implicitDefEqProofs only [go_sem, wl, zaa (.mk _ _), Tm.name, Tm.args, List.map_append, List.append_assoc]
theorem zjp (xs : List Tm) (k : Nat) (h0 : 0 < k) (hk : k + zcp xs <= 4611686018427387904) : IC Tryz.prog 14 [] (.one (tmS xs)) [iD k] (.one (tmS (za6 xs k).1)) [iD (za6 xs k).2] :=
 zg2 xs (fun a _ => za7 (P := fun a => ∀ k : Nat, 0 < k -> k + zcp a.args <= 4611686018427387904 -> IC Tryz.prog 14 [] (.one (tmS a.args)) [iD k] (.one (tmS (za6 a.args k).1)) [iD (za6 a.args k).2]) (fun n ys ih => zg2 ys ih) a) k h0 hk
theorem zhj (xs : List Tm) (H : ∀ a ∈ xs, ∀ k : Nat, 0 < k -> k + zcp a.args <= 4611686018427387904 -> FC Tryz.prog 15 [.one (tmS (za6 a.args k).1), iD k] [iD (za6 a.args k).2]) :
  ∀ k : Nat, 0 < k -> k + zcp xs <= 4611686018427387904 -> FC Tryz.prog 15 [.one (tmS (za6 xs k).1), iD k] [iD (za6 xs k).2] := by
 intro k h0 hk
 refine zaq Tryz.call15 Tryz.func15 rfl (by kernel_rfl) (za4 (by kernel_rfl)) ?_
 simp -implicitDefEqProofs only [go_sem, Tryz.results15]
 refine zag (fun (x : List Tm × List Tm × Nat) => hd [(0, vT (.sl 2 (x.1.map tmC ++ (za6 x.2.1 x.2.2).1.map tmC))), (1, vI x.2.2), (5, vI x.1.length)] [] [])
  (fun x => (za6 xs k).1 = x.1 ++ (za6 x.2.1 x.2.2).1 /\ (za6 xs k).2 = (za6 x.2.1 x.2.2).2 /\ 0 < x.2.2 /\ x.2.2 + zcp x.2.1 <= 4611686018427387904 /\ x.1.length + x.2.1.length = xs.length /\ ∀ a ∈ x.2.1, a ∈ xs) (fun x => x.2.1.length) ([], xs, k) (zab ?_) ?_ ?_
 ·simp -implicitDefEqProofs only [go_sem]
 ·exact ⟨rfl, rfl, h0, hk, by simp, fun _ h => h⟩
 ·intro ⟨dn, rest, kk⟩ ⟨h1, h2, h3, h4, h6, h5⟩
  simp only at h1 h2 h3 h4 h5 h6
  cases rest with
  | nil =>
   simp only [za6, List.append_nil] at h1 h2
   simp -implicitDefEqProofs only [go_sem, h2, za6]
  | cons a rest =>
   obtain ⟨n0, s0⟩ := a
   simp only [za6, zfa, zcp, zf1] at h1 h2 h4
   have hc_s0 := zc9 s0 (kk + 1)
   have w0 : IntKind.i64.wrap (((kk : Nat) : Int) + 1) = ((kk + 1 : Nat) : Int) := zan (by omega)
   have hln := zi5 xs
   rw [List.length_cons] at h6
   have wl : IntKind.i64.wrap ((dn.length : Int) + 1) = ((dn.length + 1 : Nat) : Int) := zan (by omega)
   simp -implicitDefEqProofs only [go_sem, za6, zfa, zaa (.mk _ _), Tm.name, Tm.args]
   refine drawn (by kernel_rfl) ?_
   simp -implicitDefEqProofs only [go_sem]
   refine zax (zer kk (by omega) (by omega)) (by simp -implicitDefEqProofs only [go_sem, beq_self_eq_true, bne_self_eq_false, w0]) ?_
   simp -implicitDefEqProofs only [go_sem, beq_self_eq_true, bne_self_eq_false, w0]
   refine ⟨by kernel_rfl, ?_⟩
   refine callF (H (.mk n0 s0) (h5 _ (by simp)) (kk + 1) (by omega) (by show (kk + 1) + zcp s0 <= _; omega)) (by simp -implicitDefEqProofs only [go_sem, w0, Tm.name, Tm.args]) ?_
   simp -implicitDefEqProofs only [go_sem, w0, Tm.name, Tm.args]
   refine ⟨(dn ++ [.mk (mtx kk) (za6 s0 (kk + 1)).1], rest, (za6 s0 (kk + 1)).2), ⟨by simpa using h1, h2, by show 0 < (za6 s0 (kk + 1)).2; omega, by show (za6 s0 (kk + 1)).2 + zcp rest <= _; omega, by simp; omega, fun b hb => h5 b (by simp [hb])⟩, by simp, zab ?_⟩
   simp -implicitDefEqProofs only [go_sem, wl, zaa (.mk _ _), Tm.name, Tm.args, List.map_append, List.append_assoc]
theorem zru (xs : List Tm) (k : Nat) (h0 : 0 < k) (hk : k + zcp xs <= 4611686018427387904) : FC Tryz.prog 15 [.one (tmS (za6 xs k).1), iD k] [iD (za6 xs k).2] :=
 zhj xs (fun a _ => za7 (P := fun a => ∀ k : Nat, 0 < k -> k + zcp a.args <= 4611686018427387904 -> FC Tryz.prog 15 [.one (tmS (za6 a.args k).1), iD k] [iD (za6 a.args k).2]) (fun n ys ih => zhj ys ih) a) k h0 hk
end Go.Proofs.YtnkagnjiljjpcaaGreat
namespace Go.Proofs.YtnkagnjiljjpcaaGreat
set_option linter.unusedSimpArgs false
set_option linter.unusedVariables false
set_option linter.unusedSectionVars false
set_option maxRecDepth 4000
open Go.RowKit
mutual
theorem zz0 : ∀ a : Tm, zf1 a <= 2 + 2 * a.wt
 | .mk n s => by
  have := zh0 s
  rw [Tm.wt_eq, zf1]; unfold zgm at this
  simp only [Tm.name, Tm.args]; omega
theorem zh0 : ∀ xs : List Tm, zcp xs <= 2 * zgm xs
 | [] => by simp [zcp]
 | a :: xs => by
  have h1 := zz0 a
  have h2 := zh0 xs
  unfold zgm at h2 ⊢
  rw [zcp, List.length_cons, List.map_cons, List.sum_cons]; omega
end
end Go.Proofs.YtnkagnjiljjpcaaGreat
namespace Go.Proofs.YtnkagnjiljjpcaaGreat
set_option linter.unusedSimpArgs false
set_option linter.unusedVariables false
set_option linter.unusedSectionVars false
set_option maxRecDepth 4000
open Go.RowKit
theorem qhz {n m : Str} (hn : zay n = true) (hm : zb4 m = true) : (n == m) = false := by
 rw [beq_eq_false_iff_ne]
 rintro rfl
 have h1 := (zmb hn).1
 have h2 := (zi4 hm).1
 rw [h1] at h2
 cases h2
theorem zvu {n : Str} (h : zb4 n = true) : zay n = false := by
 cases hv : zay n
 ·rfl
 ·have := qhz hv h
  simp at this
end Go.Proofs.YtnkagnjiljjpcaaGreat
namespace Go.Proofs.YtnkagnjiljjpcaaGreat
set_option linter.unusedSimpArgs false
set_option linter.unusedVariables false
set_option linter.unusedSectionVars false
set_option maxRecDepth 4000
open Go.RowKit
set_option maxHeartbeats 400000 in
theorem zks (xs : List Tm) (H : ∀ x ∈ xs, ∀ l : Int, 0 <= l -> l <= 1048576 -> FC Tryz.prog 65 [tmD x, iD l] [iD (szR x.wt l)]) (l : Int) (h0 : 0 <= l) (h1 : l <= 1048576) :
  FC Tryz.prog 24 [.one (tmS xs), iD l] [iD (szR (zgm xs) l)] := by
 refine zcn (fun hw => ?_) Tryz.call24
 have hl : xs.length <= 9223372036854775807 := by simpa [zfj, wfT] using hw.1.1
 refine zaq Tryz.call24 Tryz.func24 rfl (by kernel_rfl) (za4 (by kernel_rfl)) ?_
 simp -implicitDefEqProofs only [go_sem, Tryz.results24]
 rw [zbt (by omega) (by omega)]
 have hW : zgm xs = xs.length + (xs.map Tm.wt).sum := rfl
 refine ⟨fun h => ?_, fun h => ?_⟩
 ·rw [zek (by simp at h; omega)]
 ·have hlen : (xs.length : Int) <= l := by simp at h; omega
  refine zag (fun k : Nat => hd [(0, vT (tmS xs)), (1, vI (l - xs.length - zrv Tm.wt xs k)), (5, vI k)] [] []) (fun k => k <= xs.length /\ 0 <= l - xs.length - zrv Tm.wt xs k) (fun k => xs.length - k) 0 (zab ?_) ?_ ?_
  ·simp -implicitDefEqProofs only [go_sem]
   simp [zgb]
  ·simpa [zgb] using hlen
  ·intro k ⟨hk, hp⟩
   by_cases hlt : k < xs.length
   ·have hs := zo6 Tm.wt xs k hlt
    have hs2 := zzr Tm.wt xs (k + 1)
    simp -implicitDefEqProofs only [go_sem, List.length_map, zai, hlt, zaa]
    refine callF (H xs[k] (List.getElem_mem hlt) (l - xs.length - zrv Tm.wt xs k) hp (by omega)) (by simp -implicitDefEqProofs only [go_sem, zaa]) ?_
    simp -implicitDefEqProofs only [go_sem, zaa]
    refine ⟨fun h => ?_, fun h => ?_⟩
    ·have := zh9 hp (by simpa using h)
     rw [zek (by omega)]
    ·obtain ⟨h2, h3⟩ := zfk (by simpa using h)
     rw [zan (by omega)]
     exact ⟨k + 1, ⟨hlt, by omega⟩, by omega, zab (by simp -implicitDefEqProofs only [go_sem]; rw [h3]; congr 1; omega)⟩
   ·simp -implicitDefEqProofs only [go_sem, List.length_map, hlt]
    have hall := ztj Tm.wt xs k (by omega)
    rw [hall, zoo (by omega)]; congr 1; omega
set_option maxHeartbeats 400000 in
theorem zky (xs : List Tm) (H : ∀ x ∈ xs, FC Tryz.prog 70 [tmD x] [tmD x]) (hs : xs.length <= 1048576) :
  FC Tryz.prog 27 [.one (tmS xs)] [.one (tmS xs)] := by
 refine zcn (fun hw => ?_) Tryz.call27
 refine zaq Tryz.call27 Tryz.func27 rfl (by kernel_rfl) (za4 (by kernel_rfl)) ?_
 simp -implicitDefEqProofs only [go_sem, Tryz.results27]
 refine qhw (by simp -implicitDefEqProofs only [go_sem]; omega) ?_
 simp -implicitDefEqProofs only [go_sem]
 refine zag (fun k : Nat => hd [(0, vT (tmS xs)), (3, .one (.ow 224 0)), (4, vI k)] [] [(224, ⟨true, 2, (xs.take k).map tmC ++ List.replicate (xs.length - k) [T.str [], T.sl 2 []], 0, true⟩)]) (fun k => k <= xs.length) (fun k => xs.length - k) 0 (zab ?_) ?_ ?_
 ·simp -implicitDefEqProofs only [go_sem]
  simp
 ·simp
 ·intro k hk
  by_cases hlt : k < xs.length
  ·have hlen : ((xs.take k).map tmC ++ List.replicate (xs.length - k) [T.str [], T.sl 2 []]).length = xs.length := by simp; omega
   have hlt2 : k < k + (xs.length - k) := by omega
   simp -implicitDefEqProofs only [go_sem, List.length_map, zai, hlt, zaa]
   refine callF (H xs[k] (List.getElem_mem hlt)) (by simp -implicitDefEqProofs only [go_sem, zaa, hlen, hlt, List.length_append, List.length_map, List.length_take, List.length_replicate, Nat.min_eq_left hk, hlt2]) ?_
   simp -implicitDefEqProofs only [go_sem, zaa, hlen, hlt, List.length_append, List.length_map, List.length_take, List.length_replicate, Nat.min_eq_left hk, hlt2]
   refine zid (by simp -implicitDefEqProofs only [go_sem]; simp) ?_
   simp -implicitDefEqProofs only [go_sem]
   rw [zan (by omega)]
   refine ⟨k + 1, by omega, by omega, zab ?_⟩
   simp -implicitDefEqProofs only [go_sem]
   have hf := zih ((xs.take k).map tmC) xs.length k [T.str [], T.sl 2 []] (tmC xs[k]) (by simp; omega) hlt (by simp [zaa])
   simp only [zaa] at hf
   rw [hf, List.take_succ_eq_append_getElem hlt, List.map_append, List.map_singleton]
   simp only [zaa]
  ·simp -implicitDefEqProofs only [go_sem, List.length_map, hlt]
   simp [List.take_of_length_le (show xs.length <= k by omega), show xs.length - k = 0 by omega]
set_option maxHeartbeats 400000 in
theorem zk2 (xs ys : List Tm) (H : ∀ x ∈ xs, ∀ y, FC Tryz.prog 40 [tmD x, tmD y] [bD (same x y)]) :
  FC Tryz.prog 11 [.one (tmS xs), .one (tmS ys)] [bD (same xs ys)] := by
 refine zcn (fun hw => ?_) Tryz.call11
 have hl : xs.length <= 9223372036854775807 := by simpa [zfj, wfT] using hw.1.1
 have hl2 : ys.length <= 9223372036854775807 := by simpa [zfj, wfT] using hw.2.1.1
 refine zaq Tryz.call11 Tryz.func11 rfl (by kernel_rfl) (za4 (by kernel_rfl)) ?_
 simp -implicitDefEqProofs only [go_sem, Tryz.results11]
 refine ⟨fun h => ?_, fun h => ?_⟩
 ·rw [zci.2 (by rintro rfl; simp at h)]
 ·have hlen : xs.length = ys.length := by simp at h; omega
  refine zag (fun k : Nat => hd [(0, vT (tmS xs)), (1, vT (tmS ys)), (4, vB false), (5, vI k)] [] []) (fun k => k <= xs.length /\ same xs ys = same (xs.drop k) (ys.drop k)) (fun k => xs.length - k) 0 (zab ?_) ?_ ?_
  ·simp -implicitDefEqProofs only [go_sem]
  ·simp
  ·intro k ⟨hk, hr⟩
   by_cases hlt : k < xs.length
   ·have hk2 : k < ys.length := by omega
    simp -implicitDefEqProofs only [go_sem, List.length_map, hlt]
    refine drawn (by kernel_rfl) ?_
    simp -implicitDefEqProofs only [go_sem, List.length_map, zai, hlt, hk2, zaa]
    refine zax (H xs[k] (List.getElem_mem hlt) ys[k]) (by simp -implicitDefEqProofs only [go_sem, zaa]) ?_
    simp -implicitDefEqProofs only [go_sem, zaa]
    refine ⟨by kernel_rfl, fun h => ?_, fun h => ?_⟩
    ·rw [hr, List.drop_eq_getElem_cons hlt, List.drop_eq_getElem_cons hk2, zb9, show same xs[k] ys[k] = false by simpa using h]; rfl
    ·rw [List.drop_eq_getElem_cons hlt, List.drop_eq_getElem_cons hk2, zb9, show same xs[k] ys[k] = true by simpa using h, Bool.true_and] at hr
     rw [zan (by omega)]
     exact ⟨k + 1, ⟨by omega, hr⟩, by omega, zab (by simp -implicitDefEqProofs only [go_sem])⟩
   ·simp -implicitDefEqProofs only [go_sem, List.length_map, hlt]
    rw [hr, List.drop_of_length_le (by omega), List.drop_of_length_le (by omega), zga]
set_option maxHeartbeats 400000 in
theorem zz4 (a : Tm) (H : ∀ l : Int, 0 <= l -> l <= 1048576 -> FC Tryz.prog 24 [.one (tmS a.args), iD l] [iD (szR (zgm a.args) l)]) (l : Int) (h0 : 0 <= l) (h1 : l <= 1048576) :
  FC Tryz.prog 65 [tmD a, iD l] [iD (szR a.wt l)] := by
 refine zcn (fun hw => ?_) Tryz.call65
 simp only [tmD, zaa] at hw ⊢
 have hW := a.wt_eq
 have hls : a.name.length <= 9223372036854775807 /\ True := by simp [zfj, wfT, zn9] at hw; simp [hw]
 refine zaq Tryz.call65 Tryz.func65 rfl (by kernel_rfl) (za4 (by kernel_rfl)) ?_
 simp -implicitDefEqProofs only [go_sem, Tryz.results65]
 rw [zbt (by omega) (by omega)]
 refine ⟨fun h1 => ?_, fun h1 => ?_⟩
 ·rw [zek (by simp at h1; have hu0 : zgm a.args = a.args.length + (a.args.map Tm.wt).sum := rfl;  omega)]
 have k1 : (a.name.length : Int) <= l := by simp at h1; omega
 refine callF (H (l - (a.name.length : Int)) (by omega) (by omega)) (by simp -implicitDefEqProofs only [go_sem, zaa]) ?_
 simp -implicitDefEqProofs only [go_sem, zaa]
 refine ⟨fun h2 => ?_, fun h2 => ?_⟩
 ·have := zh9 (by omega) (show szR (zgm a.args) (l - (a.name.length : Int)) < 0 by simpa using h2)
  rw [zek (by have hu0 : zgm a.args = a.args.length + (a.args.map Tm.wt).sum := rfl;  omega)]
 obtain ⟨k2, j2⟩ := zfk (show ¬ szR (zgm a.args) (l - (a.name.length : Int)) < 0 by simpa using h2)
 rw [show szR a.wt l = l - a.wt from zoo (by have hu0 : zgm a.args = a.args.length + (a.args.map Tm.wt).sum := rfl;  omega)]; exact ztp (by have hu0 : zgm a.args = a.args.length + (a.args.map Tm.wt).sum := rfl;  omega)
set_option maxHeartbeats 400000 in
theorem qas (a : Tm) (H : FC Tryz.prog 27 [.one (tmS a.args)] [.one (tmS a.args)]) (hs : a.wt <= 1048576) : FC Tryz.prog 70 [tmD a] [tmD a] := by
 have hW := a.wt_eq
 simp only [tmD, zaa]
 refine zaq Tryz.call70 Tryz.func70 rfl (by kernel_rfl) (za4 (by kernel_rfl)) ?_
 simp -implicitDefEqProofs only [go_sem, Tryz.results70]
 refine callF (H) (by simp -implicitDefEqProofs only [go_sem, zaa]) ?_
 simp -implicitDefEqProofs only [go_sem, zaa]
set_option maxHeartbeats 400000 in
theorem qca (a b : Tm) (H : FC Tryz.prog 11 [.one (tmS a.args), .one (tmS b.args)] [bD (same a.args b.args)]) : FC Tryz.prog 40 [tmD a, tmD b] [bD (same a b)] := by
 simp only [tmD, zaa]
 refine zaq Tryz.call40 Tryz.func40 rfl (by kernel_rfl) (za4 (by kernel_rfl)) ?_
 simp -implicitDefEqProofs only [go_sem, Tryz.results40]
 refine ⟨fun h1 => ?_, fun h1 => ?_⟩
 ·rw [zci.2 (by rintro rfl; simp [zbb] at h1)]
 refine callF (H) (by simp -implicitDefEqProofs only [go_sem, zaa]) ?_
 simp -implicitDefEqProofs only [go_sem, zaa]
 refine ⟨fun h2 => ?_, fun h2 => ?_⟩
 ·rw [zci.2 (by rintro rfl; simp [zbb] at h2)]
 rw [zbj.2 (by cases a; cases b; simp [zbj, Tm.name, Tm.args] at h1 h2 ⊢; simp [h1, h2])]
theorem zs7 : ∀ a : Tm, ∀ l : Int, 0 <= l -> l <= 1048576 -> FC Tryz.prog 65 [tmD a, iD l] [iD (szR a.wt l)] :=
 za7 fun b0 xs ih l h0 h1 => zz4 (.mk b0 xs) (fun l h0 h1 => zks xs ih l h0 h1) l h0 h1
theorem qa1 (xs : List Tm) (l : Int) (h0 : 0 <= l) (h1 : l <= 1048576) : FC Tryz.prog 24 [.one (tmS xs), iD l] [iD (szR (zgm xs) l)] := zks xs (fun x _ => zs7 x) l h0 h1
theorem zs3 : ∀ a : Tm, a.wt <= 1048576 -> FC Tryz.prog 70 [tmD a] [tmD a] := by
 refine za7 fun b0 xs ih hs => ?_
 have hW := Tm.wt_eq (.mk b0 xs)
 simp only [Tm.name, Tm.args] at hW
 refine qas _ (zky xs (fun x hx => ih x hx ?_) (by omega)) hs
 have := zb1 Tm.wt xs x hx
 omega
theorem zy6 (xs : List Tm) (hs : zgm xs <= 1048576) : FC Tryz.prog 27 [.one (tmS xs)] [.one (tmS xs)] :=
 zky xs (fun x hx => zs3 x (by have := zb1 Tm.wt xs x hx; unfold zgm at hs; omega)) (by unfold zgm at hs; omega)
theorem zsn : ∀ a b : Tm, FC Tryz.prog 40 [tmD a, tmD b] [bD (same a b)] :=
 za7 fun b0 xs ih b => qca (.mk b0 xs) b (zk2 xs b.args ih)
theorem qay (xs ys : List Tm) : FC Tryz.prog 11 [.one (tmS xs), .one (tmS ys)] [bD (same xs ys)] := zk2 xs ys fun x _ => zsn x
end Go.Proofs.YtnkagnjiljjpcaaGreat
namespace Go.Proofs.YtnkagnjiljjpcaaGreat
set_option linter.unusedSimpArgs false
set_option linter.unusedVariables false
set_option linter.unusedSectionVars false
set_option maxRecDepth 4000
open Go.RowKit
theorem znt (ns : List Str) : (zg1 ns).length = ns.length := (List.mergeSort_perm ns leB).length_eq
end Go.Proofs.YtnkagnjiljjpcaaGreat
namespace Go.Proofs.YtnkagnjiljjpcaaGreat
set_option linter.unusedSimpArgs false
set_option linter.unusedVariables false
set_option linter.unusedSectionVars false
set_option maxRecDepth 4000
open Go.RowKit
def mpS (ps : List (Str × Tm)) : T := .mp true (ps.map bnC)
theorem zgu (s : Str) : ∀ ps : List (Str × Tm), zc5 (.str s) (ps.map bnC) = some ((ps.find? fun p => p.1 == s).map fun p => tmC p.2)
 | [] => rfl
 | p :: ps => by
  have ih := zgu s ps
  show zc5 (.str s) ((.str p.1 :: tmC p.2) :: ps.map bnC) = _
  unfold zc5
  rw [show zzn (.str s) (.str p.1) = some (decide (s = p.1)) from rfl, List.find?_cons]
  by_cases h : s = p.1
  ·subst h; simp
  ·have h2 : (p.1 == s) = false := by simpa using fun e => h e.symm
   rw [decide_eq_false h, h2]
   exact ih
def rvT (ps : List (Str × Tm)) : Tm -> Tm := Tm.fold fun m _ rs => if rs.length = 0 then (match ps.find? fun p => p.1 == m with | some p => p.2 | none => .mk m []) else .mk m rs
theorem zt9 (ps : List (Str × Tm)) (a : Tm) : rvT ps a = if a.args.length = 0 then (match ps.find? fun p => p.1 == a.name with | some p => p.2 | none => .mk a.name []) else .mk a.name (a.args.map (rvT ps)) := by
 unfold rvT
 rw [Tm.fold_eq]
 simp only [List.length_map]
theorem qks : lk2Z Tryz.prog 58 = some (.tup [(true, [.t (.str []), .nl 2]), (false, [.t (.bool false)])]) := by kernel_rfl
theorem zkb (ps : List (Str × Tm)) (hp : ∀ p ∈ ps, p.2.wt <= 1048576) (a : Tm) (ha : a.args.length <= 1048576) (H : ∀ x ∈ a.args, FC Tryz.prog 77 [tmD x, .one (mpS ps)] [tmD (rvT ps x)]) : FC Tryz.prog 77 [tmD a, .one (mpS ps)] [tmD (rvT ps a)] := by
 have hv := zt9 ps a
 have hf := zgu a.name ps
 have hpw : ∀ p, (ps.find? fun p => p.1 == a.name) = some p -> p.2.wt <= 1048576 := fun p h => hp p (List.mem_of_find?_eq_some h)
 have hz := qks
 unfold mpS at H ⊢
 generalize ps.map bnC = R at H hf ⊢
 generalize (ps.find? fun p => p.1 == a.name) = r at hf hv hpw
 have e1 : tmD (.mk a.name (a.args.map (rvT ps))) = .agg [.str a.name, .sl 2 (a.args.map fun x => tmC (rvT ps x))] := by unfold tmD; rw [zaa]; simp only [Tm.name, Tm.args, List.map_map, Function.comp_def]
 cases r with
 | none =>
  rw [show (none : Option (Str × Tm)).map (fun p => tmC p.2) = none from rfl] at hf
  have hv : rvT ps a = .mk a.name (a.args.map (rvT ps)) := by
   rw [hv]
   split
   ·rename_i h0
    rw [List.length_eq_zero_iff.1 h0]; rfl
   ·rfl
  rw [hv, e1]
  simp only [tmD, zaa a] at H ⊢
  refine zaq Tryz.call77 Tryz.func77 rfl (by kernel_rfl) (za4 (by kernel_rfl)) ?_
  simp -implicitDefEqProofs only [go_sem, Tryz.results77]
  refine qb9 (v := .tup [(true, [.t (.str []), .nl 2]), (false, [.t (.bool false)])]) (by simp -implicitDefEqProofs only [go_sem, hf, hz, Tryz.underlying102, Tryz.underlying9]; try rfl) ?_
  simp -implicitDefEqProofs only [go_sem]
  refine zag (fun k : Nat => hd [(1, vT (.mp true R)), (4, .one (.bx 4 0)), (7, .one (.bx 7 0)), (30, vT (tmS a.args)), (31, vI a.args.length), (32, vI k)] [(4, [.t (.str []), .nl 2]), (7, [.t (.str a.name), .ow 3000 0])] [(3000, ⟨true, 2, (a.args.take k).map fun x => tmC (rvT ps x), 0, true⟩)]) (fun k => k <= a.args.length) (fun k => a.args.length - k) 0 (zab ?_) (Nat.zero_le _) ?_
  ·simp -implicitDefEqProofs only [go_sem]
  ·intro k hk
   by_cases hlt : k < a.args.length
   ·have hmin : min k a.args.length <= 4294967295 := by omega
    have HC := H a.args[k] (List.getElem_mem hlt)
    simp only [tmD, zaa a.args[k], zaa (rvT ps a.args[k])] at HC
    simp -implicitDefEqProofs only [go_sem, zai, hlt, zaa a.args[k]]
    refine drawn (by kernel_rfl) ?_
    simp -implicitDefEqProofs only [go_sem]
    refine zax (HC) (by simp -implicitDefEqProofs only [go_sem]) ?_
    simp -implicitDefEqProofs only [go_sem]
    refine zbh (by simp -implicitDefEqProofs only [go_sem]) ?_
    simp -implicitDefEqProofs only [go_sem]
    refine zhq true (by simp -implicitDefEqProofs only [go_sem, ne_eq, List.length_map, List.length_take, hmin]) ?_
    simp -implicitDefEqProofs only [go_sem, ne_eq, List.length_map, List.length_take, hmin]
    refine ⟨by kernel_rfl, k + 1, hlt, by omega, zab ?_⟩
    simp -implicitDefEqProofs only [go_sem]
    rw [zan (by omega), List.take_succ_eq_append_getElem hlt, List.map_append, List.map_singleton, zaa (rvT ps a.args[k])]
    trivial
   ·have ht : a.args.take k = a.args := List.take_of_length_le (by omega)
    simp -implicitDefEqProofs only [go_sem, hlt, ht]
 | some p =>
  have HC := zkj p.2 (hpw p rfl)
  rw [show (some p).map (fun p => tmC p.2) = some (tmC p.2) from rfl] at hf
  simp only [tmD, zaa p.2] at HC hf
  by_cases h0 : a.args.length = 0
  ·rw [if_pos h0] at hv
   rw [hv]
   have e0 : ((a.args.length : Int) == 0) = true := by simp [h0]
   simp only [tmD, zaa a, zaa p.2]
   refine zaq Tryz.call77 Tryz.func77 rfl (by kernel_rfl) (za4 (by kernel_rfl)) ?_
   simp -implicitDefEqProofs only [go_sem, Tryz.results77]
   refine qb9 (by simp -implicitDefEqProofs only [go_sem, hf, hz, Tryz.underlying102, Tryz.underlying9]; rfl) ?_
   simp -implicitDefEqProofs only [go_sem, e0]
   refine callF (HC) (by simp -implicitDefEqProofs only [go_sem]) ?_
   simp -implicitDefEqProofs only [go_sem]
  ·rw [if_neg h0] at hv
   have e0 : ((a.args.length : Int) == 0) = false := by simp [h0]
   rw [hv, e1]
   simp only [tmD, zaa a] at H ⊢
   refine zaq Tryz.call77 Tryz.func77 rfl (by kernel_rfl) (za4 (by kernel_rfl)) ?_
   simp -implicitDefEqProofs only [go_sem, Tryz.results77]
   refine qb9 (by simp -implicitDefEqProofs only [go_sem, hf, hz, Tryz.underlying102, Tryz.underlying9]; rfl) ?_
   simp -implicitDefEqProofs only [go_sem, e0]
   refine zag (fun k : Nat => hd [(1, vT (.mp true R)), (4, .one (.bx 4 0)), (7, .one (.bx 7 0)), (30, vT (tmS a.args)), (31, vI a.args.length), (32, vI k)] [(4, [.t (.str []), .nl 2]), (7, [.t (.str a.name), .ow 3000 0])] [(3000, ⟨true, 2, (a.args.take k).map fun x => tmC (rvT ps x), 0, true⟩)]) (fun k => k <= a.args.length) (fun k => a.args.length - k) 0 (zab ?_) (Nat.zero_le _) ?_
   ·simp -implicitDefEqProofs only [go_sem]
   ·intro k hk
    by_cases hlt : k < a.args.length
    ·have hmin : min k a.args.length <= 4294967295 := by omega
     have HC := H a.args[k] (List.getElem_mem hlt)
     simp only [tmD, zaa a.args[k], zaa (rvT ps a.args[k])] at HC
     simp -implicitDefEqProofs only [go_sem, zai, hlt, zaa a.args[k]]
     refine drawn (by kernel_rfl) ?_
     simp -implicitDefEqProofs only [go_sem]
     refine zax (HC) (by simp -implicitDefEqProofs only [go_sem]) ?_
     simp -implicitDefEqProofs only [go_sem]
     refine zbh (by simp -implicitDefEqProofs only [go_sem]) ?_
     simp -implicitDefEqProofs only [go_sem]
     refine zhq true (by simp -implicitDefEqProofs only [go_sem, ne_eq, List.length_map, List.length_take, hmin]) ?_
     simp -implicitDefEqProofs only [go_sem, ne_eq, List.length_map, List.length_take, hmin]
     refine ⟨by kernel_rfl, k + 1, hlt, by omega, zab ?_⟩
     simp -implicitDefEqProofs only [go_sem]
     rw [zan (by omega), List.take_succ_eq_append_getElem hlt, List.map_append, List.map_singleton, zaa (rvT ps a.args[k])]
     trivial
    ·have ht : a.args.take k = a.args := List.take_of_length_le (by omega)
     simp -implicitDefEqProofs only [go_sem, hlt, ht]
theorem zl4 (ps : List (Str × Tm)) (hp : ∀ p ∈ ps, p.2.wt <= 1048576) : ∀ a : Tm, a.wt <= 1048576 -> FC Tryz.prog 77 [tmD a, .one (mpS ps)] [tmD (rvT ps a)] :=
 za7 fun m xs ih hs => by
  obtain ⟨h1, h2⟩ := Tm.wt_args hs
  exact zkb ps hp (.mk m xs) h1 fun x hx => ih x hx (h2 x hx)
end Go.Proofs.YtnkagnjiljjpcaaGreat
namespace Go.Proofs.YtnkagnjiljjpcaaGreat
set_option linter.unusedSimpArgs false
set_option linter.unusedVariables false
set_option linter.unusedSectionVars false
set_option maxRecDepth 4000
open Go.RowKit
def lkP (ps : List (Str × Tm)) (m : Str) : Tm := match ps.find? fun p => p.1 == m with | some p => p.2 | none => .mk m []
theorem putT_v (l : List (Str × Tm)) {m : Str} (h : zay m = true) (xs : List Tm) : ze2 l (.mk m xs) = lkP l m := by rw [zjr]; exact if_pos h
theorem putT_n (l : List (Str × Tm)) {m : Str} (h : ¬ zay m = true) (xs : List Tm) : ze2 l (.mk m xs) = .mk m (xs.map (ze2 l)) := by rw [zjr]; exact if_neg h
theorem rvT_v (l : List (Str × Tm)) (m : Str) : rvT l (.mk m []) = lkP l m := by rw [zt9]; exact if_pos rfl
theorem rvT_n (l : List (Str × Tm)) (m : Str) {xs : List Tm} (h : xs ≠ []) : rvT l (.mk m xs) = .mk m (xs.map (rvT l)) := by rw [zt9]; exact if_neg fun e => h (List.length_eq_zero_iff.1 e)
theorem zyg {m : Str} (h : zay m = true) (xs : List Tm) : (Tm.mk m xs).names = decide (xs.length = 0) := by rw [Tm.names_eq]; exact if_pos h
theorem qbz {m : Str} (h : ¬ zay m = true) (xs : List Tm) : (Tm.mk m xs).names = (zb4 m && decide (xs.length <= 4) && xs.all Tm.names) := by rw [Tm.names_eq]; exact if_neg h
theorem zyn (ps : List (Str × Tm)) (hp : ∀ p ∈ ps, zay p.1 = true) : ∀ a : Tm, a.names = true -> rvT ps a = ze2 ps a := za7 fun m xs ih h => by
 by_cases hm : zay m = true
 ·rw [zyg hm] at h
  have hx : xs = [] := List.length_eq_zero_iff.1 (of_decide_eq_true h)
  subst hx
  rw [rvT_v, putT_v _ hm]
 ·rw [qbz hm] at h
  simp only [Bool.and_eq_true] at h
  rw [putT_n _ hm]
  by_cases hx : xs = []
  ·subst hx
   rw [rvT_v]
   unfold lkP
   have hf : (ps.find? fun p => p.1 == m) = none := by
    rw [List.find?_eq_none]
    intro p hpm e
    have := hp p hpm
    rw [beq_iff_eq.1 e] at this
    exact hm this
   rw [hf]; rfl
  ·rw [rvT_n _ _ hx]
   congr 1
   exact List.map_congr_left fun x hx => ih x hx (List.all_eq_true.1 h.2 x hx)
def nmA (a : Tm) : Bool := if (a.name == [61]) = true then decide (a.args.length = 2) && a.args.all Tm.names else zb4 a.name && a.names
theorem zia (a : Tm) : a.atomOk = (nmA a && zcs a) := by
 unfold Tm.atomOk nmA Tm.good
 split
 ·rw [Bool.and_assoc, Bool.and_comm (zcs a), Bool.and_assoc]
 ·rw [Bool.and_comm (zcs a), Bool.and_assoc]
theorem qhb {a : Tm} (h : nmA a = true) : zay a.name = false /\ a.args.all Tm.names = true := by
 unfold nmA at h
 split at h
 ·rename_i he
  have he : a.name = [61] := by simpa using he
  rw [Bool.and_eq_true] at h
  rw [he]
  exact ⟨by decide, h.2⟩
 ·rw [Bool.and_eq_true] at h
  have hv := zvu h.1
  have h2 := h.2
  rw [Tm.names_eq, hv, if_neg (by simp)] at h2
  simp only [Bool.and_eq_true] at h2
  exact ⟨hv, h2.2⟩
theorem zpd (ps : List (Str × Tm)) (hp : ∀ p ∈ ps, zay p.1 = true) {a : Tm} (h : nmA a = true) : rvT ps a = ze2 ps a := by
 by_cases he : (a.name == [61]) = true
 ·have h2 := h
  unfold nmA at h2
  rw [if_pos he] at h2
  simp only [Bool.and_eq_true, decide_eq_true_eq] at h2
  obtain ⟨h3, h4⟩ := qhb h
  rw [zt9, zjr, if_neg (by omega), h3, if_neg (by simp)]
  congr 1
  exact List.map_congr_left fun x hx => zyn ps hp x (List.all_eq_true.1 h4 x hx)
 ·unfold nmA at h
  rw [if_neg he, Bool.and_eq_true] at h
  exact zyn ps hp a h.2
theorem qho {α : Type} (f g : α -> Nat) : ∀ (xs : List α), (∀ x ∈ xs, f x <= g x) -> (xs.map f).sum <= (xs.map g).sum
 | [], _ => Nat.le_refl _
 | x :: xs, H => by
  have := H x (by simp)
  have := qho f g xs fun y hy => H y (by simp [hy])
  rw [List.map_cons, List.map_cons, List.sum_cons, List.sum_cons]; omega
theorem ztt {α : Type} (f : α -> Nat) : ∀ xs : List α, (xs.map fun x => 8 * f x).sum = 8 * (xs.map f).sum
 | [] => rfl
 | x :: xs => by rw [List.map_cons, List.sum_cons, ztt f xs, List.map_cons, List.sum_cons]; omega
theorem zln {α : Type} (w : α -> Nat) : ∀ xs : List α, (xs.map fun x => 1 + w x).sum = xs.length + (xs.map w).sum
 | [] => rfl
 | a :: l => by rw [List.map_cons, List.sum_cons, zln w l, List.length_cons, List.map_cons, List.sum_cons]; omega
theorem zpp {xs : List Tm} (H : ∀ x ∈ xs, 1 + x.wt <= 8 * x.nodes) : xs.length + (xs.map Tm.wt).sum <= 8 * (xs.map Tm.nodes).sum := by
 rw [<- zln, <- ztt]
 exact qho _ _ xs H
theorem zuh : ∀ a : Tm, a.names = true -> 1 + a.wt <= 8 * a.nodes := za7 fun m xs ih h => by
 have hw : (Tm.mk m xs).wt = m.length + xs.length + (xs.map Tm.wt).sum := Tm.wt_eq _
 have hn : (Tm.mk m xs).nodes = 1 + (xs.map Tm.nodes).sum := Tm.nodes_eq _
 rw [hw, hn]
 by_cases hm : zay m = true
 ·rw [zyg hm] at h
  have hx : xs = [] := List.length_eq_zero_iff.1 (of_decide_eq_true h)
  subst hx
  unfold zay inB at hm
  simp only [Bool.and_eq_true, decide_eq_true_eq] at hm
  simp only [List.map_nil, List.sum_nil, List.length_nil]
  omega
 ·rw [qbz hm] at h
  simp only [Bool.and_eq_true] at h
  have h1 : zb4 m = true := h.1.1
  unfold zb4 inB at h1
  simp only [Bool.and_eq_true, decide_eq_true_eq] at h1
  have h2 := zpp fun x hx => ih x hx (List.all_eq_true.1 h.2 x hx)
  omega
theorem qcf {a : Tm} (h : a.atomOk = true) : a.wt <= 512 := by
 rw [zia, Bool.and_eq_true] at h
 obtain ⟨h1, h2⟩ := h
 have h4 := (qhb h1).2
 have hl : a.name.length <= 6 := by
  unfold nmA at h1
  split at h1
  ·rename_i he
   rw [beq_iff_eq.1 he]; simp
  ·rw [Bool.and_eq_true] at h1
   have h1 := h1.1
   unfold zb4 inB at h1
   simp only [Bool.and_eq_true, decide_eq_true_eq] at h1
   omega
 unfold zcs at h2
 simp only [Bool.and_eq_true, decide_eq_true_eq] at h2
 have hn := a.nodes_eq
 have hw := a.wt_eq
 have h5 := zpp fun x hx => zuh x (List.all_eq_true.1 h4 x hx)
 omega
end Go.Proofs.YtnkagnjiljjpcaaGreat
namespace Go.Proofs.YtnkagnjiljjpcaaGreat
set_option linter.unusedSimpArgs false
set_option linter.unusedVariables false
set_option linter.unusedSectionVars false
set_option maxRecDepth 4000
open Go.RowKit
noncomputable def dec (p : Prop) : Bool := @decide p (Classical.propDecidable _)
theorem zlw {p : Prop} : dec p = true ↔ p := by simp [dec]
end Go.Proofs.YtnkagnjiljjpcaaGreat
namespace Go.Proofs.YtnkagnjiljjpcaaGreat
set_option linter.unusedSimpArgs false
set_option linter.unusedVariables false
set_option linter.unusedSectionVars false
set_option maxRecDepth 4000
open Go.RowKit
def orE (x y : Int) : Int := if x = 0 then y else x
structure GCmp {α : Type} (c : α -> α -> Int) : Prop where
 neg : ∀ a b, c b a = - c a b
 tr : ∀ a b d, c a b <= 0 -> c b d <= 0 -> c a d <= 0
section
variable {α β : Type} {c c1 c2 : α -> α -> Int}
theorem GCmp.self (h : GCmp c) (a : α) : c a a = 0 := by have := h.neg a a; omega
theorem GCmp.comp (h : GCmp c) (f : β -> α) : GCmp fun x y => c (f x) (f y) := ⟨fun a b => h.neg _ _, fun a b d => h.tr _ _ _⟩
theorem GCmp.lex (h1 : GCmp c1) (h2 : GCmp c2) : GCmp fun a b => orE (c1 a b) (c2 a b) := by
 refine ⟨fun a b => ?_, fun a b d => ?_⟩
 ·have n1 := h1.neg a b
  have n2 := h2.neg a b
  unfold orE
  split <;> split <;> omega
 ·have t1 := h1.tr a b d
  have t2 := h2.tr a b d
  have n1 := h1.neg a b
  have n2 := h1.neg b d
  have n3 := h1.neg a d
  have t3 := h1.tr d a b
  have t4 := h1.tr b d a
  unfold orE
  split <;> split <;> split <;> omega
end
def zwo {α : Type} (c : α -> α -> Int) : List α -> List α -> Int
 | [], [] => 0
 | [], _ :: _ => -1
 | _ :: _, [] => 1
 | x :: xs, y :: ys => orE (c x y) (zwo c xs ys)
theorem zzv {α : Type} {c : α -> α -> Int} (h : GCmp c) : GCmp (zwo c) := by
 have hn : ∀ a b, zwo c b a = - zwo c a b := by
  intro a
  induction a with
  | nil => intro b; cases b <;> rfl
  | cons x xs ih =>
   intro b
   cases b with
   | nil => rfl
   | cons y ys =>
    have n1 := h.neg x y
    have n2 := ih ys
    unfold zwo orE
    split <;> split <;> omega
 refine ⟨hn, ?_⟩
 intro a
 induction a with
 | nil => intro b d h1 h2; cases d with
  | nil => exact Int.le_refl _
  | cons => unfold zwo; omega
 | cons x xs ih =>
  intro b d h1 h2
  cases b with
  | nil => unfold zwo at h1; omega
  | cons y ys =>
   cases d with
   | nil => unfold zwo at h2; omega
   | cons z zs =>
    have t1 := h.tr x y z
    have t2 := ih ys zs
    have n1 := h.neg x y
    have n2 := h.neg y z
    have n3 := h.neg x z
    have t3 := h.tr z x y
    have t4 := h.tr y z x
    unfold zwo orE at h1 h2 ⊢
    split at h1 <;> split at h2 <;> split <;> omega
def zj4 (x y : Bool) : Int := if (x && !y) = true then -1 else if (y && !x) = true then 1 else 0
def qii (x y : Nat) : Int := if x < y then -1 else if y < x then 1 else 0
theorem zgx : GCmp zj4 := ⟨by decide, by decide⟩
theorem zna : GCmp qii := by
 refine ⟨fun a b => ?_, fun a b d => ?_⟩ <;> unfold qii <;> repeat' split
 all_goals omega
theorem znl : GCmp zm8 := by
 have hc : ∀ s t : Str, zm8 s t = if s < t then -1 else if s = t then 0 else 1 := fun s t => by
  unfold zm8
  rw [zmn]
  simp only [decide_eq_true_eq, beq_iff_eq]
 have tot : ∀ s t : Str, ¬ s < t -> s ≠ t -> t < s := fun s t h1 h2 => by
  rcases List.le_iff_lt_or_eq.1 (List.not_lt.1 h1) with h | h
  ·exact h
  ·exact absurd h.symm h2
 refine ⟨fun a b => ?_, fun a b d => ?_⟩
 ·rw [hc, hc]
  by_cases h1 : a < b
  ·have h2 : ¬ b < a := fun h => zju a (List.lt_trans h1 h)
   have h3 : b ≠ a := fun e => zju a (e ▸ h1)
   rw [if_pos h1, if_neg h2, if_neg h3]; rfl
  ·by_cases h2 : a = b
   ·subst h2
    rw [if_neg h1, if_pos rfl]; rfl
   ·rw [if_neg h1, if_neg h2, if_pos (tot _ _ h1 h2)]
 ·rw [hc, hc, hc]
  intro h1 h2
  by_cases h3 : a < b
  ·by_cases h4 : b < d
   ·rw [if_pos (List.lt_trans h3 h4)]; omega
   ·rw [if_neg h4] at h2
    by_cases h5 : b = d
    ·subst h5; rw [if_pos h3]; omega
    ·rw [if_neg h5] at h2; omega
  ·rw [if_neg h3] at h1
   by_cases h4 : a = b
   ·subst h4; exact h2
   ·rw [if_neg h4] at h1; omega
theorem ziv {s t : Str} : zm8 s t = 0 ↔ s = t := by
 unfold zm8
 rw [zmn]
 by_cases h : s < t
 ·have : s ≠ t := fun e => zju t (e ▸ h)
  simp [h, this]
 ·by_cases h2 : s = t
  ·simp [h2]
  ·simp [h, h2]
def hdT (a b : Tm) : Int := orE (zj4 (zay a.name) (zay b.name)) (orE (zm8 a.name b.name) (qii a.args.length b.args.length))
mutual
def zew : Tm -> Tm -> Int
 | .mk n xs, b => orE (hdT (.mk n xs) b) (zdt xs b.args)
def zdt : List Tm -> List Tm -> Int
 | [], _ => 0
 | _ :: _, [] => 0
 | x :: xs, y :: ys => orE (zew x y) (zdt xs ys)
end
theorem zlm (a b : Tm) : zew a b = orE (hdT a b) (zdt a.args b.args) := by cases a; rw [zew]; rfl
def cmpK : Nat -> Tm -> Tm -> Int
 | 0, _, _ => 0
 | k + 1, a, b => orE (hdT a b) (zwo (cmpK k) a.args b.args)
theorem qdm : GCmp hdT := GCmp.lex (zgx.comp fun a : Tm => zay a.name) (GCmp.lex (znl.comp Tm.name) (zna.comp fun a : Tm => a.args.length))
theorem zh7 : ∀ k, GCmp (cmpK k)
 | 0 => ⟨fun _ _ => rfl, fun _ _ _ _ _ => Int.le_refl _⟩
 | k + 1 => GCmp.lex qdm ((zzv (zh7 k)).comp Tm.args)
theorem zl7 {a b : Tm} : hdT a b = 0 ↔ a.name = b.name /\ a.args.length = b.args.length := by
 unfold hdT
 constructor
 ·intro h
  unfold orE at h
  split at h
  ·split at h
   ·rename_i h2
    refine ⟨ziv.1 h2, ?_⟩
    unfold qii at h
    split at h
    ·omega
    ·split at h <;> omega
   ·exact absurd h ‹_›
  ·exact absurd h ‹_›
 ·rintro ⟨h1, h2⟩
  rw [h1, h2, zgx.self, znl.self, zna.self]; rfl
def Tm.dp : Tm -> Nat := Tm.fold fun _ _ rs => 1 + rs.sum
theorem Tm.dp_eq (a : Tm) : a.dp = 1 + (a.args.map Tm.dp).sum := Tm.fold_eq _ a
theorem ztz (c : Tm -> Tm -> Int) : ∀ (xs ys : List Tm), xs.length = ys.length -> (∀ x ∈ xs, ∀ y, zew x y = c x y) -> zdt xs ys = zwo c xs ys
 | [], [], _, _ => by rw [zdt]; rfl
 | [], _ :: _, h, _ => by simp at h
 | _ :: _, [], h, _ => by simp at h
 | x :: xs, y :: ys, h, H => by
  rw [zdt, zwo, H x (by simp) y, ztz c xs ys (by simpa using h) fun x hx => H x (by simp [hx])]
theorem zsg : ∀ (a : Tm) (k : Nat), a.dp <= k -> ∀ b, zew a b = cmpK k a b := za7 fun n xs ih k hk b => by
 have hd : (Tm.mk n xs).dp = 1 + (xs.map Tm.dp).sum := Tm.dp_eq _
 cases k with
 | zero => omega
 | succ k =>
  rw [zlm, cmpK]
  by_cases h : hdT (.mk n xs) b = 0
  ·rw [show (Tm.mk n xs).args = xs from rfl, ztz (cmpK k) xs b.args (zl7.1 h).2 fun x hx y => ih x hx k (by have := zb1 Tm.dp xs x hx; omega) y]
  ·unfold orE
   rw [if_neg h, if_neg h]
theorem qe2 (a b : Tm) : zew b a = - zew a b := by
 rw [zsg a (a.dp + b.dp) (by omega), zsg b (a.dp + b.dp) (by omega)]
 exact (zh7 _).neg a b
theorem qkt (a b d : Tm) (h1 : zew a b <= 0) (h2 : zew b d <= 0) : zew a d <= 0 := by
 rw [zsg a (a.dp + b.dp) (by omega)] at h1 ⊢
 rw [zsg b (a.dp + b.dp) (by omega)] at h2
 exact (zh7 _).tr a b d h1 h2
theorem qcb : GCmp zew := ⟨qe2, qkt⟩
theorem zyj : ∀ a b : Tm, zew a b = 0 ↔ a = b := za7 fun n xs ih b => by
 rw [zlm]
 have hts : ∀ (xs : List Tm), (∀ x ∈ xs, ∀ b, zew x b = 0 ↔ x = b) -> ∀ ys, xs.length = ys.length -> (zdt xs ys = 0 ↔ xs = ys) := fun xs => by
  induction xs with
  | nil => intro _ ys h; cases ys with
   | nil => simp [zdt]
   | cons => simp at h
  | cons x xs ih2 =>
   intro H ys h
   cases ys with
   | nil => simp at h
   | cons y ys =>
    have h1 := H x (by simp) y
    have h2 := ih2 (fun x hx => H x (by simp [hx])) ys (by simpa using h)
    rw [zdt, List.cons.injEq, <- h1, <- h2]
    unfold orE
    split
    ·rename_i e; simp [e]
    ·rename_i e; simp [e]
 constructor
 ·intro h
  unfold orE at h
  split at h
  ·rename_i h0
   obtain ⟨e1, e2⟩ := zl7.1 h0
   have := (hts xs ih b.args e2).1 h
   cases b with
   | mk m ys =>
    obtain rfl : n = m := e1
    obtain rfl : xs = ys := this
    rfl
  ·exact absurd h ‹_›
 ·rintro rfl
  rw [zl7.2 ⟨rfl, rfl⟩]
  exact (hts xs ih xs rfl).2 rfl
end Go.Proofs.YtnkagnjiljjpcaaGreat
namespace Go.Proofs.YtnkagnjiljjpcaaGreat
set_option linter.unusedSimpArgs false
set_option linter.unusedVariables false
set_option linter.unusedSectionVars false
set_option maxRecDepth 4000
open Go.RowKit
theorem zxe {α : Type} {l : List α} (h : l.Nodup) {i j : Nat} (hi : i < l.length) (hj : j < l.length) (e : l[i] = l[j]) : i = j := by
 rw [List.nodup_iff_pairwise_ne, List.pairwise_iff_getElem] at h
 rcases Nat.lt_trichotomy i j with h1 | h1 | h1
 ·exact absurd e (h i j hi hj h1)
 ·exact h1
 ·exact absurd e.symm (h j i hj hi h1)
end Go.Proofs.YtnkagnjiljjpcaaGreat
namespace Go.Proofs.YtnkagnjiljjpcaaGreat
set_option linter.unusedSimpArgs false
set_option linter.unusedVariables false
set_option linter.unusedSectionVars false
set_option maxRecDepth 4000
open Go.RowKit
section
variable {P : Program}
theorem ct0_A {n0 : Nat -> Prop} {N : Nat} {σ : St} {g : Gh} {a : Act} {w : World} (hR : Rel n0 N σ g a w) {c : C} {t : T} (h : CT0 σ c t) {v : Value} (hv : CR σ g w c v) : zah w (fun b => b < w.heap.size /\ g.A0 b) t v := by
 have hF : ∀ b, Fix σ g w b -> b < w.heap.size /\ g.A0 b := fun b hb => ⟨hb.2.2.1, hb.2.2.2⟩
 have hFr : ∀ b, zb0 σ g w b -> b < w.heap.size /\ g.A0 b := fun b hb => hF b hb.1
 cases c with
 | t x =>
  have h : x = t := h
  subst h
  exact zah.keep (fun _ _ => rfl) hF x v hv
 | rn x =>
  have h : x = t := h
  subst h
  exact zah.keep (fun _ _ => rfl) hFr x v hv
 | nl s =>
  cases t with
  | sl sz rows =>
   have h : rows = [] := h
   subst h
   have hv : v = .slice none 0 0 := hv
   subst hv
   unfold zah
   exact ⟨none, 0, rfl, Nat.le_refl _, by simp, Or.inl rfl⟩
  | _ => exact h.elim
 | ow e n =>
  cases t with
  | sl sz rows =>
   obtain ⟨d, o, he⟩ := h
   obtain ⟨rfl, -⟩ := hv
   cases o
   ·exact zah.keep (fun _ _ => rfl) hF _ _ (hR.offs e _ he rfl).1
   ·have hOn : σ.On e := ⟨_, he, rfl⟩
    have hlt : ∀ b ∈ g.φ e, b < w.heap.size := (hR.evs e _ he rfl).lt
    obtain ⟨ao, cap, e1, e2, e3, e4⟩ := hR.evs e _ he rfl
    unfold zah
    refine ⟨ao, cap, e1, e2, e3, ?_⟩
    rcases e4 with ⟨_, _, e4, _⟩ | ⟨b, cells, ty, fps, k1, k2, k3, k4, k5⟩
    ·exact Or.inl e4
    ·have hA : ∀ b' ∈ g.φ e, b' < w.heap.size /\ g.A0 b' := fun b' hb' => ⟨hlt b' hb', (hR.ebase e hOn b' hb').1⟩
     refine Or.inr ⟨b, 0, k1, hA b (by rw [k2]; simp), ?_⟩
     split at k5
     ·exact zad.rep b cells ty k3 0 sz rows fps k5 fun b' hb' => hA b' (by rw [k2]; simp [hb'])
     ·exact zaj.keep (fun _ _ => rfl) hF b rfl 0 sz rows k5.2
  | _ => exact h.elim
 | el cs o =>
  cases t with
  | ptr cs' =>
   obtain ⟨rfl, rfl⟩ := h
   obtain ⟨b, q, h1, h2, h3⟩ := hv
   unfold zah
   exact ⟨b, q, h1, hF b h2, za5.keep (fun _ _ => rfl) hF b rfl q cs h3⟩
  | _ => exact h.elim
 | er cs o =>
  cases t with
  | ptr cs' =>
   obtain ⟨rfl, rfl⟩ := h
   obtain ⟨b, q, h1, h2, h3⟩ := hv
   unfold zah
   exact ⟨b, q, h1, hFr b h2, za5.keep (fun _ _ => rfl) hFr b rfl q cs h3⟩
  | _ => exact h.elim
 | _ => cases t <;> exact h.elim
theorem qhn {n0 : Nat -> Prop} {N : Nat} {σ : St} {g : Gh} {a : Act} {w : World} (hR : Rel n0 N σ g a w) : ∀ {cs : List C} {ts : List T}, zok σ cs ts -> ∀ {vs : List Value}, CRs σ g w cs vs -> zac w (fun b => b < w.heap.size /\ g.A0 b) ts vs
 | [], ts, h, vs, hv => by rw [show ts = [] from h]; unfold zac; exact hv
 | c :: cs, ts, h, vs, hv => by
  obtain ⟨t, ts', rfl, h1, h2⟩ := h
  obtain ⟨v, vs', rfl, k1, k2⟩ := hv
  unfold zac
  exact ⟨v, vs', rfl, ct0_A hR h1 k1, qhn hR h2 k2⟩
def RVe (σ : St) : List V -> List D -> Prop
 | [], [] => True
 | .one c :: vs, .one t :: ds => CT0 σ c t /\ RVe σ vs ds
 | .agg cs :: vs, .agg ts :: ds => zok σ cs ts /\ RVe σ vs ds
 | _, _ => False
theorem RVe.rep {n0 : Nat -> Prop} {N : Nat} {σ : St} {g : Gh} {a : Act} {w : World} (hR : Rel n0 N σ g a w) : ∀ {vs : List V} {ds : List D}, RVe σ vs ds -> ∀ {us : List Value}, VRl σ g w vs us -> za3 w (fun b => b < w.heap.size /\ g.A0 b) ds us
 | [], [], _, us, hv => hv
 | .one c :: vs, .one t :: ds, h, us, hv => by
  obtain ⟨u, us', rfl, k1, k2⟩ := hv
  exact ⟨u, us', rfl, ct0_A hR h.1 k1, RVe.rep hR h.2 k2⟩
 | .agg cs :: vs, .agg ts :: ds, h, us, hv => by
  obtain ⟨u, us', rfl, ⟨q, rfl, k1⟩, k2⟩ := hv
  exact ⟨_, us', rfl, ⟨q, rfl, qhn hR h.1 k1⟩, RVe.rep hR h.2 k2⟩
 | [], _ :: _, h, _, _ => h.elim
 | .one _ :: _, [], h, _, _ => h.elim
 | .one _ :: _, .agg _ :: _, h, _, _ => h.elim
 | .agg _ :: _, [], h, _, _ => h.elim
 | .agg _ :: _, .one _ :: _, h, _, _ => h.elim
 | .tup _ :: _, [], h, _, _ => h.elim
 | .tup _ :: _, _ :: _, h, _, _ => h.elim
def PRe (P : Program) (rs : List ResultVar) (res : List D) (e : Exit) (σ : St) : Prop := match e with
 | .normal => zao (zba P σ rs) fun vs => RVe σ vs res
 | .ret => zao (zba P σ rs) fun vs => RVe σ vs res
 | _ => False
theorem zg9 {f : FuncId} {fn : Func} {c : Code} {args res : List D} (hc : zaz P f) (hf : P.funcs[f]? = some fn) (hb : fn.body = some c) (hd : zbu fn.ntmps c = true) (hN : (rd args).length <= fn.ntmps)
  (h : ex P c [] (PRe P fn.results.toList res) (zc7 (rd args))) : RC P f args res := by
 refine ⟨hc, fun w vs A hv => ?_⟩
 refine calls_of_wp hf hb ?_
 have hg : ∀ (ds : List D) (vs : List Value), za3 w (fun b => b < w.heap.size /\ A b) ds vs -> zas w (fun b => b < w.heap.size /\ A b /\ b ∉ ([] : List Nat)) (rd ds) vs [] [] := by
  intro ds
  induction ds with
  | nil => intro vs h; exact ⟨h, rfl, rfl⟩
  | cons d ds ih =>
   rintro vs ⟨v, vs', rfl, h1, h2⟩
   refine ⟨v, vs', rfl, ?_, ih _ h2⟩
   cases d with
   | one t => exact zah.keep (fun _ _ => rfl) (fun b hb => ⟨hb.1, hb.2, by simp⟩) t _ h1
   | agg ts => obtain ⟨a, h0, h1⟩ := h1; exact ⟨a, h0, zac.keep (fun _ _ => rfl) (fun b hb => ⟨hb.1, hb.2, by simp⟩) ts a h1⟩
 obtain ⟨g, hg, hR⟩ := Rel.start (A := A) (A0 := fun b => A b \/ w.heap.size <= b) (R0 := RP.of fun _ => True) (N := fn.ntmps) (hg _ _ hv) List.nodup_nil (zcl args) hN (fun _ hb => Or.inl hb) (fun b hb => by simp at hb) (fun b hb => ⟨Or.inr (by
  refine Nat.le_of_not_lt fun hlt => hb ⟨hlt, by simp⟩), trivial⟩)
 refine wp_mono (zbd (w0 := w) c (zc7 (rd args)) _ hd h g _ w hR (fun k hk => hk.1) (Bk.refl _ _) hg) fun e a' w' hq => ?_
 obtain ⟨σ', g', h1, h2, h3, h4, h5⟩ := hq
 have key : zao (zba P σ' fn.results.toList) (fun vs => RVe σ' vs res) -> ∃ v, (results fn a'.tmps).run P w' = .ok v w' /\ ∃ us, Ending.returned v = .returned (zb6 us) /\ za3 w' (fun b => b < w'.heap.size /\ (A b \/ w.heap.size <= b)) res us /\ Below w.heap.size w w' := fun hk => by
  unfold zao at hk
  split at hk
  ·rename_i vs hvs
   obtain ⟨us, r1, r2⟩ := zbq h2 fn hvs
   refine ⟨_, r1, us, rfl, (RVe.rep h2 hk r2).keep (fun _ _ => rfl) fun b hb => ⟨hb.1, ?_⟩, h4.os, h4.tape, h4.output, h4.size, fun k hk => h4.block k ⟨hk, by simp⟩⟩
   have := hb.2
   simp only [Prod.mk.injEq] at h5
   rw [h5.1] at this
   exact this
  ·exact hk.elim
 cases e with
 | normal => exact ⟨h2.defers, key h1⟩
 | ret => exact ⟨h2.defers, key h1⟩
 | exit _ => exact h1.elim
 | goto _ => exact h1.elim
 | panic _ => exact h1.elim
 | outgrown => exact h1.elim
attribute [go_sem] PRe RVe
end
end Go.Proofs.YtnkagnjiljjpcaaGreat
