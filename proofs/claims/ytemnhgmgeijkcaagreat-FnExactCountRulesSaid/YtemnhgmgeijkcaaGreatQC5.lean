/-
  The walk over plain data, and contracts of functions of the program and of its laws.
  Conditions: those that each theorem names.
-/
import Derived.Test.YtemnhgmgeijkcaaGreatQC4
import Derived.Sort.OwnSorted
import Derived.Sort.KeysCollected
import Derived.Sort.Walk0
import Derived.Laws.AppendOwn
import Derived.Shelf.Sort.Plain
import Derived.Shelf.Slices.In.SortNone
import Derived.Shelf.Slices.CompactS
import Derived.Lib.SliceRun
namespace Go.Proofs.YtemnhgmgeijkcaaGreat
set_option linter.unusedSimpArgs false
set_option linter.unusedVariables false
set_option linter.unusedSectionVars false
set_option maxRecDepth 4000
open Go.RowKit
set_option maxHeartbeats 400000 in
theorem zxg (xs : List Tm) (H : ∀ x ∈ xs, ∀ l : Int, 0 <= l -> l <= 1048576 -> FC Tryz.prog 57 [tmD x, iD l] [iD (szR x.wt l)]) (l : Int) (h0 : 0 <= l) (h1 : l <= 1048576) :
  FC Tryz.prog 59 [.one (tmS xs), iD l] [iD (szR (zri xs) l)] := by
 refine zc7 (fun hw => ?_) Tryz.call59
 have hl : xs.length <= 9223372036854775807 := by simpa [zfj, wfT] using hw.1.1
 refine zag Tryz.call59 Tryz.func59 rfl (by kernel_rfl) (zau (by kernel_rfl)) ?_
 simp -implicitDefEqProofs only [go_sem, Tryz.results59]
 rw [zbk (by omega) (by omega)]
 have hW : zri xs = xs.length + (xs.map Tm.wt).sum := rfl
 refine ⟨fun h => ?_, fun h => ?_⟩
 ·rw [zco (by simp at h; omega)]
 ·have hlen : (xs.length : Int) <= l := by simp at h; omega
  refine zad (fun k : Nat => hd [(0, vT (tmS xs)), (1, vI (l - xs.length - zjz Tm.wt xs k)), (5, vI k)] [] []) (fun k => k <= xs.length /\ 0 <= l - xs.length - zjz Tm.wt xs k) (fun k => xs.length - k) 0 (zac ?_) ?_ ?_
  ·simp -implicitDefEqProofs only [go_sem]
   simp [zdx]
  ·simpa [zdx] using hlen
  ·intro k ⟨hk, hp⟩
   by_cases hlt : k < xs.length
   ·have hs := zgh Tm.wt xs k hlt
    have hs2 := zls Tm.wt xs (k + 1)
    simp -implicitDefEqProofs only [go_sem, List.length_map, zaf, hlt, zab]
    refine callF (H xs[k] (List.getElem_mem hlt) (l - xs.length - zjz Tm.wt xs k) hp (by omega)) (by simp -implicitDefEqProofs only [go_sem, zab]) ?_
    simp -implicitDefEqProofs only [go_sem, zab]
    refine ⟨fun h => ?_, fun h => ?_⟩
    ·have := zd2 hp (by simpa using h)
     rw [zco (by omega)]
    ·obtain ⟨h2, h3⟩ := zdq (by simpa using h)
     rw [zas (by omega)]
     exact ⟨k + 1, ⟨hlt, by omega⟩, by omega, zac (by simp -implicitDefEqProofs only [go_sem]; rw [h3]; congr 1; omega)⟩
   ·simp -implicitDefEqProofs only [go_sem, List.length_map, hlt]
    have hall := znw Tm.wt xs k (by omega)
    rw [hall, zki (by omega)]; congr 1; omega
set_option maxHeartbeats 400000 in
theorem zyj (xs : List Tm) (H : ∀ x ∈ xs, FC Tryz.prog 61 [tmD x] [tmD x]) (hs : xs.length <= 1048576) :
  FC Tryz.prog 63 [.one (tmS xs)] [.one (tmS xs)] := by
 refine zc7 (fun hw => ?_) Tryz.call63
 refine zag Tryz.call63 Tryz.func63 rfl (by kernel_rfl) (zau (by kernel_rfl)) ?_
 simp -implicitDefEqProofs only [go_sem, Tryz.results63]
 refine zyg (by simp -implicitDefEqProofs only [go_sem]; omega) ?_
 simp -implicitDefEqProofs only [go_sem]
 refine zad (fun k : Nat => hd [(0, vT (tmS xs)), (3, .one (.ow 224 0)), (4, vI k)] [] [(224, ⟨true, 2, (xs.take k).map tmC ++ List.replicate (xs.length - k) [T.str [], T.sl 2 []], 0, true⟩)]) (fun k => k <= xs.length) (fun k => xs.length - k) 0 (zac ?_) ?_ ?_
 ·simp -implicitDefEqProofs only [go_sem]
  simp
 ·simp
 ·intro k hk
  by_cases hlt : k < xs.length
  ·have hlen : ((xs.take k).map tmC ++ List.replicate (xs.length - k) [T.str [], T.sl 2 []]).length = xs.length := by simp; omega
   have hlt2 : k < k + (xs.length - k) := by omega
   simp -implicitDefEqProofs only [go_sem, List.length_map, zaf, hlt, zab]
   refine callF (H xs[k] (List.getElem_mem hlt)) (by simp -implicitDefEqProofs only [go_sem, zab, hlen, hlt, List.length_append, List.length_map, List.length_take, List.length_replicate, Nat.min_eq_left hk, hlt2]) ?_
   simp -implicitDefEqProofs only [go_sem, zab, hlen, hlt, List.length_append, List.length_map, List.length_take, List.length_replicate, Nat.min_eq_left hk, hlt2]
   refine zdv (by simp -implicitDefEqProofs only [go_sem]; simp) ?_
   simp -implicitDefEqProofs only [go_sem]
   rw [zas (by omega)]
   refine ⟨k + 1, by omega, by omega, zac ?_⟩
   simp -implicitDefEqProofs only [go_sem]
   have hf := zgg ((xs.take k).map tmC) xs.length k [T.str [], T.sl 2 []] (tmC xs[k]) (by simp; omega) hlt (by simp [zab])
   simp only [zab] at hf
   rw [hf, List.take_succ_eq_append_getElem hlt, List.map_append, List.map_singleton]
   simp only [zab]
  ·simp -implicitDefEqProofs only [go_sem, List.length_map, hlt]
   simp [List.take_of_length_le (show xs.length <= k by omega), show xs.length - k = 0 by omega]
set_option maxHeartbeats 400000 in
theorem zxf (xs ys : List Tm) (H : ∀ x ∈ xs, ∀ y, FC Tryz.prog 72 [tmD x, tmD y] [bD (same x y)]) :
  FC Tryz.prog 74 [.one (tmS xs), .one (tmS ys)] [bD (same xs ys)] := by
 refine zc7 (fun hw => ?_) Tryz.call74
 have hl : xs.length <= 9223372036854775807 := by simpa [zfj, wfT] using hw.1.1
 have hl2 : ys.length <= 9223372036854775807 := by simpa [zfj, wfT] using hw.2.1.1
 refine zag Tryz.call74 Tryz.func74 rfl (by kernel_rfl) (zau (by kernel_rfl)) ?_
 simp -implicitDefEqProofs only [go_sem, Tryz.results74]
 refine ⟨fun h => ?_, fun h => ?_⟩
 ·rw [zbv.2 (by rintro rfl; simp at h)]
 ·have hlen : xs.length = ys.length := by simp at h; omega
  refine zad (fun k : Nat => hd [(0, vT (tmS xs)), (1, vT (tmS ys)), (4, vB false), (5, vI k)] [] []) (fun k => k <= xs.length /\ same xs ys = same (xs.drop k) (ys.drop k)) (fun k => xs.length - k) 0 (zac ?_) ?_ ?_
  ·simp -implicitDefEqProofs only [go_sem]
  ·simp
  ·intro k ⟨hk, hr⟩
   by_cases hlt : k < xs.length
   ·have hk2 : k < ys.length := by omega
    simp -implicitDefEqProofs only [go_sem, List.length_map, hlt]
    refine drawn (by kernel_rfl) ?_
    simp -implicitDefEqProofs only [go_sem, List.length_map, zaf, hlt, hk2, zab]
    refine zan (H xs[k] (List.getElem_mem hlt) ys[k]) (by simp -implicitDefEqProofs only [go_sem, zab]) ?_
    simp -implicitDefEqProofs only [go_sem, zab]
    refine ⟨by kernel_rfl, fun h => ?_, fun h => ?_⟩
    ·rw [hr, List.drop_eq_getElem_cons hlt, List.drop_eq_getElem_cons hk2, zbz, show same xs[k] ys[k] = false by simpa using h]; rfl
    ·rw [List.drop_eq_getElem_cons hlt, List.drop_eq_getElem_cons hk2, zbz, show same xs[k] ys[k] = true by simpa using h, Bool.true_and] at hr
     rw [zas (by omega)]
     exact ⟨k + 1, ⟨by omega, hr⟩, by omega, zac (by simp -implicitDefEqProofs only [go_sem])⟩
   ·simp -implicitDefEqProofs only [go_sem, List.length_map, hlt]
    rw [hr, List.drop_of_length_le (by omega), List.drop_of_length_le (by omega), zdt]
set_option maxHeartbeats 400000 in
theorem qb2 (a : Tm) (H : ∀ l : Int, 0 <= l -> l <= 1048576 -> FC Tryz.prog 59 [.one (tmS a.args), iD l] [iD (szR (zri a.args) l)]) (l : Int) (h0 : 0 <= l) (h1 : l <= 1048576) :
  FC Tryz.prog 57 [tmD a, iD l] [iD (szR a.wt l)] := by
 refine zc7 (fun hw => ?_) Tryz.call57
 simp only [tmD, zab] at hw ⊢
 have hW := a.wt_eq
 have hls : a.name.length <= 9223372036854775807 /\ True := by simp [zfj, wfT, zo9] at hw; simp [hw]
 refine zag Tryz.call57 Tryz.func57 rfl (by kernel_rfl) (zau (by kernel_rfl)) ?_
 simp -implicitDefEqProofs only [go_sem, Tryz.results57]
 rw [zbk (by omega) (by omega)]
 refine ⟨fun h1 => ?_, fun h1 => ?_⟩
 ·rw [zco (by simp at h1; have hu0 : zri a.args = a.args.length + (a.args.map Tm.wt).sum := rfl;  omega)]
 have k1 : (a.name.length : Int) <= l := by simp at h1; omega
 refine callF (H (l - (a.name.length : Int)) (by omega) (by omega)) (by simp -implicitDefEqProofs only [go_sem, zab]) ?_
 simp -implicitDefEqProofs only [go_sem, zab]
 refine ⟨fun h2 => ?_, fun h2 => ?_⟩
 ·have := zd2 (by omega) (show szR (zri a.args) (l - (a.name.length : Int)) < 0 by simpa using h2)
  rw [zco (by have hu0 : zri a.args = a.args.length + (a.args.map Tm.wt).sum := rfl;  omega)]
 obtain ⟨k2, j2⟩ := zdq (show ¬ szR (zri a.args) (l - (a.name.length : Int)) < 0 by simpa using h2)
 rw [show szR a.wt l = l - a.wt from zki (by have hu0 : zri a.args = a.args.length + (a.args.map Tm.wt).sum := rfl;  omega)]; exact zq7 (by have hu0 : zri a.args = a.args.length + (a.args.map Tm.wt).sum := rfl;  omega)
set_option maxHeartbeats 400000 in
theorem qde (a : Tm) (H : FC Tryz.prog 63 [.one (tmS a.args)] [.one (tmS a.args)]) (hs : a.wt <= 1048576) : FC Tryz.prog 61 [tmD a] [tmD a] := by
 have hW := a.wt_eq
 simp only [tmD, zab]
 refine zag Tryz.call61 Tryz.func61 rfl (by kernel_rfl) (zau (by kernel_rfl)) ?_
 simp -implicitDefEqProofs only [go_sem, Tryz.results61]
 refine callF (H) (by simp -implicitDefEqProofs only [go_sem, zab]) ?_
 simp -implicitDefEqProofs only [go_sem, zab]
set_option maxHeartbeats 400000 in
theorem qdf (a b : Tm) (H : FC Tryz.prog 74 [.one (tmS a.args), .one (tmS b.args)] [bD (same a.args b.args)]) : FC Tryz.prog 72 [tmD a, tmD b] [bD (same a b)] := by
 simp only [tmD, zab]
 refine zag Tryz.call72 Tryz.func72 rfl (by kernel_rfl) (zau (by kernel_rfl)) ?_
 simp -implicitDefEqProofs only [go_sem, Tryz.results72]
 refine ⟨fun h1 => ?_, fun h1 => ?_⟩
 ·rw [zbv.2 (by rintro rfl; simp [zbe] at h1)]
 refine callF (H) (by simp -implicitDefEqProofs only [go_sem, zab]) ?_
 simp -implicitDefEqProofs only [go_sem, zab]
 refine ⟨fun h2 => ?_, fun h2 => ?_⟩
 ·rw [zbv.2 (by rintro rfl; simp [zbe] at h2)]
 rw [zbs.2 (by cases a; cases b; simp [zbs, Tm.name, Tm.args] at h1 h2 ⊢; simp [h1, h2])]
theorem zvf : ∀ a : Tm, ∀ l : Int, 0 <= l -> l <= 1048576 -> FC Tryz.prog 57 [tmD a, iD l] [iD (szR a.wt l)] :=
 zbx fun b0 xs ih l h0 h1 => qb2 (.mk b0 xs) (fun l h0 h1 => zxg xs ih l h0 h1) l h0 h1
theorem zwa : ∀ a : Tm, a.wt <= 1048576 -> FC Tryz.prog 61 [tmD a] [tmD a] := by
 refine zbx fun b0 xs ih hs => ?_
 have hW := Tm.wt_eq (.mk b0 xs)
 simp only [Tm.name, Tm.args] at hW
 refine qde _ (zyj xs (fun x hx => ih x hx ?_) (by omega)) hs
 have := zbu Tm.wt xs x hx
 omega
theorem zvq : ∀ a b : Tm, FC Tryz.prog 72 [tmD a, tmD b] [bD (same a b)] :=
 zbx fun b0 xs ih b => qdf (.mk b0 xs) b (zxf xs b.args ih)
end Go.Proofs.YtemnhgmgeijkcaaGreat
namespace Go.Proofs.YtemnhgmgeijkcaaGreat
set_option linter.unusedSimpArgs false
set_option linter.unusedVariables false
set_option linter.unusedSectionVars false
set_option maxRecDepth 4000
open Go.RowKit
set_option maxHeartbeats 400000 in
theorem zhy (xs : List Fm) (H : ∀ x ∈ xs, ∀ l : Int, 0 <= l -> l <= 1048576 -> FC Tryz.prog 12 [fmD x, iD l] [iD (szR x.wt l)]) (l : Int) (h0 : 0 <= l) (h1 : l <= 1048576) :
  FC Tryz.prog 58 [.one (fmS xs), iD l] [iD (szR (zb5 xs) l)] := by
 refine zc7 (fun hw => ?_) Tryz.call58
 have hl : xs.length <= 9223372036854775807 := by simpa [zfj, wfT] using hw.1.1
 refine zag Tryz.call58 Tryz.func58 rfl (by kernel_rfl) (zau (by kernel_rfl)) ?_
 simp -implicitDefEqProofs only [go_sem, Tryz.results58]
 rw [zbk (by omega) (by omega)]
 have hW : zb5 xs = xs.length + (xs.map Fm.wt).sum := rfl
 refine ⟨fun h => ?_, fun h => ?_⟩
 ·rw [zco (by simp at h; omega)]
 ·have hlen : (xs.length : Int) <= l := by simp at h; omega
  refine zad (fun k : Nat => hd [(0, vT (fmS xs)), (1, vI (l - xs.length - zjz Fm.wt xs k)), (5, vI k)] [] []) (fun k => k <= xs.length /\ 0 <= l - xs.length - zjz Fm.wt xs k) (fun k => xs.length - k) 0 (zac ?_) ?_ ?_
  ·simp -implicitDefEqProofs only [go_sem]
   simp [zdx]
  ·simpa [zdx] using hlen
  ·intro k ⟨hk, hp⟩
   by_cases hlt : k < xs.length
   ·have hs := zgh Fm.wt xs k hlt
    have hs2 := zls Fm.wt xs (k + 1)
    simp -implicitDefEqProofs only [go_sem, List.length_map, zaf, hlt, zaa, zab]
    refine callF (H xs[k] (List.getElem_mem hlt) (l - xs.length - zjz Fm.wt xs k) hp (by omega)) (by simp -implicitDefEqProofs only [go_sem, zaa, zab]) ?_
    simp -implicitDefEqProofs only [go_sem, zaa, zab]
    refine ⟨fun h => ?_, fun h => ?_⟩
    ·have := zd2 hp (by simpa using h)
     rw [zco (by omega)]
    ·obtain ⟨h2, h3⟩ := zdq (by simpa using h)
     rw [zas (by omega)]
     exact ⟨k + 1, ⟨hlt, by omega⟩, by omega, zac (by simp -implicitDefEqProofs only [go_sem]; rw [h3]; congr 1; omega)⟩
   ·simp -implicitDefEqProofs only [go_sem, List.length_map, hlt]
    have hall := znw Fm.wt xs k (by omega)
    rw [hall, zki (by omega)]; congr 1; omega
set_option maxHeartbeats 400000 in
theorem zij (xs : List Fm) (H : ∀ x ∈ xs, FC Tryz.prog 15 [fmD x] [fmD x]) (hs : xs.length <= 1048576) :
  FC Tryz.prog 62 [.one (fmS xs)] [.one (fmS xs)] := by
 refine zc7 (fun hw => ?_) Tryz.call62
 refine zag Tryz.call62 Tryz.func62 rfl (by kernel_rfl) (zau (by kernel_rfl)) ?_
 simp -implicitDefEqProofs only [go_sem, Tryz.results62]
 refine zyg (by simp -implicitDefEqProofs only [go_sem]; omega) ?_
 simp -implicitDefEqProofs only [go_sem]
 refine zad (fun k : Nat => hd [(0, vT (fmS xs)), (3, .one (.ow 224 0)), (4, vI k)] [] [(224, ⟨true, 5, (xs.take k).map fmC ++ List.replicate (xs.length - k) [T.int .i64 0, T.str [], T.sl 2 [], T.str [], T.sl 5 []], 0, true⟩)]) (fun k => k <= xs.length) (fun k => xs.length - k) 0 (zac ?_) ?_ ?_
 ·simp -implicitDefEqProofs only [go_sem]
  simp
 ·simp
 ·intro k hk
  by_cases hlt : k < xs.length
  ·have hlen : ((xs.take k).map fmC ++ List.replicate (xs.length - k) [T.int .i64 0, T.str [], T.sl 2 [], T.str [], T.sl 5 []]).length = xs.length := by simp; omega
   have hlt2 : k < k + (xs.length - k) := by omega
   simp -implicitDefEqProofs only [go_sem, List.length_map, zaf, hlt, zaa, zab]
   refine callF (H xs[k] (List.getElem_mem hlt)) (by simp -implicitDefEqProofs only [go_sem, zaa, zab, hlen, hlt, List.length_append, List.length_map, List.length_take, List.length_replicate, Nat.min_eq_left hk, hlt2]) ?_
   simp -implicitDefEqProofs only [go_sem, zaa, zab, hlen, hlt, List.length_append, List.length_map, List.length_take, List.length_replicate, Nat.min_eq_left hk, hlt2]
   refine zdv (by simp -implicitDefEqProofs only [go_sem]; simp) ?_
   simp -implicitDefEqProofs only [go_sem]
   rw [zas (by omega)]
   refine ⟨k + 1, by omega, by omega, zac ?_⟩
   simp -implicitDefEqProofs only [go_sem]
   have hf := zgg ((xs.take k).map fmC) xs.length k [T.int .i64 0, T.str [], T.sl 2 [], T.str [], T.sl 5 []] (fmC xs[k]) (by simp; omega) hlt (by simp [zaa, zab])
   simp only [zaa, zab] at hf
   rw [hf, List.take_succ_eq_append_getElem hlt, List.map_append, List.map_singleton]
   simp only [zaa, zab]
  ·simp -implicitDefEqProofs only [go_sem, List.length_map, hlt]
   simp [List.take_of_length_le (show xs.length <= k by omega), show xs.length - k = 0 by omega]
set_option maxHeartbeats 400000 in
theorem zh4 (xs ys : List Fm) (H : ∀ x ∈ xs, ∀ y, FC Tryz.prog 18 [fmD x, fmD y] [bD (same x y)]) :
  FC Tryz.prog 73 [.one (fmS xs), .one (fmS ys)] [bD (same xs ys)] := by
 refine zc7 (fun hw => ?_) Tryz.call73
 have hl : xs.length <= 9223372036854775807 := by simpa [zfj, wfT] using hw.1.1
 have hl2 : ys.length <= 9223372036854775807 := by simpa [zfj, wfT] using hw.2.1.1
 refine zag Tryz.call73 Tryz.func73 rfl (by kernel_rfl) (zau (by kernel_rfl)) ?_
 simp -implicitDefEqProofs only [go_sem, Tryz.results73]
 refine ⟨fun h => ?_, fun h => ?_⟩
 ·rw [zbv.2 (by rintro rfl; simp at h)]
 ·have hlen : xs.length = ys.length := by simp at h; omega
  refine zad (fun k : Nat => hd [(0, vT (fmS xs)), (1, vT (fmS ys)), (4, vB false), (5, vI k)] [] []) (fun k => k <= xs.length /\ same xs ys = same (xs.drop k) (ys.drop k)) (fun k => xs.length - k) 0 (zac ?_) ?_ ?_
  ·simp -implicitDefEqProofs only [go_sem]
  ·simp
  ·intro k ⟨hk, hr⟩
   by_cases hlt : k < xs.length
   ·have hk2 : k < ys.length := by omega
    simp -implicitDefEqProofs only [go_sem, List.length_map, hlt]
    refine drawn (by kernel_rfl) ?_
    simp -implicitDefEqProofs only [go_sem, List.length_map, zaf, hlt, hk2, zaa, zab]
    refine zan (H xs[k] (List.getElem_mem hlt) ys[k]) (by simp -implicitDefEqProofs only [go_sem, zaa, zab]) ?_
    simp -implicitDefEqProofs only [go_sem, zaa, zab]
    refine ⟨by kernel_rfl, fun h => ?_, fun h => ?_⟩
    ·rw [hr, List.drop_eq_getElem_cons hlt, List.drop_eq_getElem_cons hk2, zbz, show same xs[k] ys[k] = false by simpa using h]; rfl
    ·rw [List.drop_eq_getElem_cons hlt, List.drop_eq_getElem_cons hk2, zbz, show same xs[k] ys[k] = true by simpa using h, Bool.true_and] at hr
     rw [zas (by omega)]
     exact ⟨k + 1, ⟨by omega, hr⟩, by omega, zac (by simp -implicitDefEqProofs only [go_sem])⟩
   ·simp -implicitDefEqProofs only [go_sem, List.length_map, hlt]
    rw [hr, List.drop_of_length_le (by omega), List.drop_of_length_le (by omega), zdt]
set_option maxHeartbeats 400000 in
theorem zqw (a : Fm) (H : ∀ l : Int, 0 <= l -> l <= 1048576 -> FC Tryz.prog 58 [.one (fmS a.parts), iD l] [iD (szR (zb5 a.parts) l)]) (l : Int) (h0 : 0 <= l) (h1 : l <= 1048576) :
  FC Tryz.prog 12 [fmD a, iD l] [iD (szR a.wt l)] := by
 refine zc7 (fun hw => ?_) Tryz.call12
 simp only [fmD, zaa, zab] at hw ⊢
 have hW := a.wt_eq
 have hls : a.var.length <= 9223372036854775807 /\ True := by simp [zfj, wfT, zo9] at hw; simp [hw]
 refine zag Tryz.call12 Tryz.func12 rfl (by kernel_rfl) (zau (by kernel_rfl)) ?_
 simp -implicitDefEqProofs only [go_sem, Tryz.results12]
 refine callF (zvf a.atom l (by omega) (by omega)) (by simp -implicitDefEqProofs only [go_sem, zaa, zab, zab]) ?_
 simp -implicitDefEqProofs only [go_sem, zaa, zab, zab]
 refine ⟨fun h1 => ?_, fun h1 => ?_⟩
 ·have := zd2 (by omega) (show szR a.atom.wt l < 0 by simpa using h1)
  rw [zco (by have hu0 : zb5 a.parts = a.parts.length + (a.parts.map Fm.wt).sum := rfl;  omega)]
 obtain ⟨k1, j1⟩ := zdq (show ¬ szR a.atom.wt l < 0 by simpa using h1)
 rw [zbk (by omega) (by omega)]
 refine ⟨fun h2 => ?_, fun h2 => ?_⟩
 ·rw [zco (by simp at h2; have hu0 : zb5 a.parts = a.parts.length + (a.parts.map Fm.wt).sum := rfl;  omega)]
 have k2 : (a.var.length : Int) <= (szR a.atom.wt l) := by simp at h2; omega
 refine callF (H ((szR a.atom.wt l) - (a.var.length : Int)) (by omega) (by omega)) (by simp -implicitDefEqProofs only [go_sem, zaa, zab]) ?_
 simp -implicitDefEqProofs only [go_sem, zaa, zab]
 refine ⟨fun h3 => ?_, fun h3 => ?_⟩
 ·have := zd2 (by omega) (show szR (zb5 a.parts) ((szR a.atom.wt l) - (a.var.length : Int)) < 0 by simpa using h3)
  rw [zco (by have hu0 : zb5 a.parts = a.parts.length + (a.parts.map Fm.wt).sum := rfl;  omega)]
 obtain ⟨k3, j3⟩ := zdq (show ¬ szR (zb5 a.parts) ((szR a.atom.wt l) - (a.var.length : Int)) < 0 by simpa using h3)
 rw [show szR a.wt l = l - a.wt from zki (by have hu0 : zb5 a.parts = a.parts.length + (a.parts.map Fm.wt).sum := rfl;  omega)]; exact zq7 (by have hu0 : zb5 a.parts = a.parts.length + (a.parts.map Fm.wt).sum := rfl;  omega)
set_option maxHeartbeats 400000 in
theorem zqj (a : Fm) (H : FC Tryz.prog 62 [.one (fmS a.parts)] [.one (fmS a.parts)]) (hs : a.wt <= 1048576) : FC Tryz.prog 15 [fmD a] [fmD a] := by
 have hW := a.wt_eq
 simp only [fmD, zaa, zab]
 refine zag Tryz.call15 Tryz.func15 rfl (by kernel_rfl) (zau (by kernel_rfl)) ?_
 simp -implicitDefEqProofs only [go_sem, Tryz.results15]
 refine callF (zwa a.atom (by have hu0 : zb5 a.parts = a.parts.length + (a.parts.map Fm.wt).sum := rfl;  omega)) (by simp -implicitDefEqProofs only [go_sem, zaa, zab, zab]) ?_
 simp -implicitDefEqProofs only [go_sem, zaa, zab, zab]
 refine callF (H) (by simp -implicitDefEqProofs only [go_sem, zaa, zab]) ?_
 simp -implicitDefEqProofs only [go_sem, zaa, zab]
set_option maxHeartbeats 400000 in
theorem zqd (a b : Fm) (H : FC Tryz.prog 73 [.one (fmS a.parts), .one (fmS b.parts)] [bD (same a.parts b.parts)]) : FC Tryz.prog 18 [fmD a, fmD b] [bD (same a b)] := by
 simp only [fmD, zaa, zab]
 refine zag Tryz.call18 Tryz.func18 rfl (by kernel_rfl) (zau (by kernel_rfl)) ?_
 simp -implicitDefEqProofs only [go_sem, Tryz.results18]
 refine ⟨fun h1 => ?_, fun h1 => ?_⟩
 ·rw [zbv.2 (by rintro rfl; simp [zbe] at h1)]
 refine callF (zvq a.atom b.atom) (by simp -implicitDefEqProofs only [go_sem, zaa, zab, zab]) ?_
 simp -implicitDefEqProofs only [go_sem, zaa, zab, zab]
 refine ⟨fun h2 => ?_, fun h2 => ?_⟩
 ·rw [zbv.2 (by rintro rfl; simp [zbe] at h2)]
 refine ⟨fun h3 => ?_, fun h3 => ?_⟩
 ·rw [zbv.2 (by rintro rfl; simp [zbe] at h3)]
 refine callF (H) (by simp -implicitDefEqProofs only [go_sem, zaa, zab]) ?_
 simp -implicitDefEqProofs only [go_sem, zaa, zab]
 refine ⟨fun h4 => ?_, fun h4 => ?_⟩
 ·rw [zbv.2 (by rintro rfl; simp [zbe] at h4)]
 rw [zbs.2 (by cases a; cases b; simp [zbs, Fm.op, Fm.atom, Fm.var, Fm.parts] at h1 h2 h3 h4 ⊢; simp [h1, h2, h3, h4])]
theorem zk9 : ∀ a : Fm, ∀ l : Int, 0 <= l -> l <= 1048576 -> FC Tryz.prog 12 [fmD a, iD l] [iD (szR a.wt l)] :=
 zcb fun b0 b1 b2 xs ih l h0 h1 => zqw (.mk b0 b1 b2 xs) (fun l h0 h1 => zhy xs ih l h0 h1) l h0 h1
theorem zjb (xs : List Fm) (l : Int) (h0 : 0 <= l) (h1 : l <= 1048576) : FC Tryz.prog 58 [.one (fmS xs), iD l] [iD (szR (zb5 xs) l)] := zhy xs (fun x _ => zk9 x) l h0 h1
theorem zli : ∀ a : Fm, a.wt <= 1048576 -> FC Tryz.prog 15 [fmD a] [fmD a] := by
 refine zcb fun b0 b1 b2 xs ih hs => ?_
 have hW := Fm.wt_eq (.mk b0 b1 b2 xs)
 simp only [Fm.op, Fm.atom, Fm.var, Fm.parts] at hW
 refine zqj _ (zij xs (fun x hx => ih x hx ?_) (by omega)) hs
 have := zbu Fm.wt xs x hx
 omega
theorem zjk (xs : List Fm) (hs : zb5 xs <= 1048576) : FC Tryz.prog 62 [.one (fmS xs)] [.one (fmS xs)] :=
 zij xs (fun x hx => zli x (by have := zbu Fm.wt xs x hx; unfold zb5 at hs; omega)) (by unfold zb5 at hs; omega)
theorem zlp : ∀ a b : Fm, FC Tryz.prog 18 [fmD a, fmD b] [bD (same a b)] :=
 zcb fun b0 b1 b2 xs ih b => zqd (.mk b0 b1 b2 xs) b (zh4 xs b.parts ih)
theorem zi3 (xs ys : List Fm) : FC Tryz.prog 73 [.one (fmS xs), .one (fmS ys)] [bD (same xs ys)] := zh4 xs ys fun x _ => zlp x
set_option maxHeartbeats 400000 in
theorem zrm (a : Sq) (l : Int) (h0 : 0 <= l) (h1 : l <= 1048576) :
  FC Tryz.prog 30 [sqD a, iD l] [iD (szR a.wt l)] := by
 refine zc7 (fun hw => ?_) Tryz.call30
 simp only [sqD, zah] at hw ⊢
 have hW := a.wt_eq
 have hls : True := by simp [zfj, wfT, zo9] at hw; simp [hw]
 refine zag Tryz.call30 Tryz.func30 rfl (by kernel_rfl) (zau (by kernel_rfl)) ?_
 simp -implicitDefEqProofs only [go_sem, Tryz.results30]
 refine callF (zjb a.left l (by omega) (by omega)) (by simp -implicitDefEqProofs only [go_sem, zah]) ?_
 simp -implicitDefEqProofs only [go_sem, zah]
 refine ⟨fun h1 => ?_, fun h1 => ?_⟩
 ·have := zd2 (by omega) (show szR (zb5 a.left) l < 0 by simpa using h1)
  rw [zco (by have hu0 : zb5 a.left = a.left.length + (a.left.map Fm.wt).sum := rfl; have hu1 : zb5 a.right = a.right.length + (a.right.map Fm.wt).sum := rfl;  omega)]
 obtain ⟨k1, j1⟩ := zdq (show ¬ szR (zb5 a.left) l < 0 by simpa using h1)
 refine callF (zjb a.right (szR (zb5 a.left) l) (by omega) (by omega)) (by simp -implicitDefEqProofs only [go_sem, zah]) ?_
 simp -implicitDefEqProofs only [go_sem, zah]
 refine ⟨fun h2 => ?_, fun h2 => ?_⟩
 ·have := zd2 (by omega) (show szR (zb5 a.right) (szR (zb5 a.left) l) < 0 by simpa using h2)
  rw [zco (by have hu0 : zb5 a.left = a.left.length + (a.left.map Fm.wt).sum := rfl; have hu1 : zb5 a.right = a.right.length + (a.right.map Fm.wt).sum := rfl;  omega)]
 obtain ⟨k2, j2⟩ := zdq (show ¬ szR (zb5 a.right) (szR (zb5 a.left) l) < 0 by simpa using h2)
 rw [show szR a.wt l = l - a.wt from zki (by have hu0 : zb5 a.left = a.left.length + (a.left.map Fm.wt).sum := rfl; have hu1 : zb5 a.right = a.right.length + (a.right.map Fm.wt).sum := rfl;  omega)]; exact zq7 (by have hu0 : zb5 a.left = a.left.length + (a.left.map Fm.wt).sum := rfl; have hu1 : zb5 a.right = a.right.length + (a.right.map Fm.wt).sum := rfl;  omega)
set_option maxHeartbeats 400000 in
theorem zqi (a : Sq) (hs : a.wt <= 1048576) : FC Tryz.prog 33 [sqD a] [sqD a] := by
 have hW := a.wt_eq
 simp only [sqD, zah]
 refine zag Tryz.call33 Tryz.func33 rfl (by kernel_rfl) (zau (by kernel_rfl)) ?_
 simp -implicitDefEqProofs only [go_sem, Tryz.results33]
 refine callF (zjk a.left (by have hu0 : zb5 a.left = a.left.length + (a.left.map Fm.wt).sum := rfl; have hu1 : zb5 a.right = a.right.length + (a.right.map Fm.wt).sum := rfl;  omega)) (by simp -implicitDefEqProofs only [go_sem, zah]) ?_
 simp -implicitDefEqProofs only [go_sem, zah]
 refine callF (zjk a.right (by have hu0 : zb5 a.left = a.left.length + (a.left.map Fm.wt).sum := rfl; have hu1 : zb5 a.right = a.right.length + (a.right.map Fm.wt).sum := rfl;  omega)) (by simp -implicitDefEqProofs only [go_sem, zah]) ?_
 simp -implicitDefEqProofs only [go_sem, zah]
set_option maxHeartbeats 400000 in
theorem zrp (a b : Sq) : FC Tryz.prog 37 [sqD a, sqD b] [bD (same a b)] := by
 simp only [sqD, zah]
 refine zag Tryz.call37 Tryz.func37 rfl (by kernel_rfl) (zau (by kernel_rfl)) ?_
 simp -implicitDefEqProofs only [go_sem, Tryz.results37]
 refine callF (zi3 a.left b.left) (by simp -implicitDefEqProofs only [go_sem, zah]) ?_
 simp -implicitDefEqProofs only [go_sem, zah]
 refine ⟨fun h1 => ?_, fun h1 => ?_⟩
 ·rw [zbv.2 (by rintro rfl; simp [zbe] at h1)]
 refine callF (zi3 a.right b.right) (by simp -implicitDefEqProofs only [go_sem, zah]) ?_
 simp -implicitDefEqProofs only [go_sem, zah]
 refine ⟨fun h2 => ?_, fun h2 => ?_⟩
 ·rw [zbv.2 (by rintro rfl; simp [zbe] at h2)]
 rw [zbs.2 (by cases a; cases b; simp [zbs, Sq.left, Sq.right] at h1 h2 ⊢; simp [h1, h2])]
theorem zr6 (a : Sq) (l : Int) (h0 : 0 <= l) (h1 : l <= 1048576) : FC Tryz.prog 30 [sqD a, iD l] [iD (szR a.wt l)] := zrm a l h0 h1
theorem ztz (a : Sq) (hs : a.wt <= 1048576) : FC Tryz.prog 33 [sqD a] [sqD a] := zqi a hs
theorem ztv (a b : Sq) : FC Tryz.prog 37 [sqD a, sqD b] [bD (same a b)] := zrp a b
end Go.Proofs.YtemnhgmgeijkcaaGreat
namespace Go.Proofs.YtemnhgmgeijkcaaGreat
set_option linter.unusedSimpArgs false
set_option linter.unusedVariables false
set_option linter.unusedSectionVars false
set_option maxRecDepth 4000
open Go.RowKit
abbrev sqS (xs : List Sq) : T := .sl 2 (xs.map sqC)
def sqsW (xs : List Sq) : Nat := xs.length + (xs.map Sq.wt).sum
inductive Dv where
 | mk (rule : Int) (seq : Sq) (main : Int) (term : Tm) (cut : Fm) (parts : List Dv)
def Dv.rule : Dv -> Int | .mk a _ _ _ _ _ => a
def Dv.seq : Dv -> Sq | .mk _ a _ _ _ _ => a
def Dv.main : Dv -> Int | .mk _ _ a _ _ _ => a
def Dv.term : Dv -> Tm | .mk _ _ _ a _ _ => a
def Dv.cut : Dv -> Fm | .mk _ _ _ _ a _ => a
def Dv.parts : Dv -> List Dv | .mk _ _ _ _ _ a => a
theorem Dv.eta : ∀ a : Dv, Dv.mk a.rule a.seq a.main a.term a.cut a.parts = a | .mk _ _ _ _ _ _ => rfl
mutual
theorem zdn {P : Dv -> Prop} (h : ∀ r s m t c ps, (∀ x ∈ ps, P x) -> P (.mk r s m t c ps)) : ∀ e, P e
 | .mk r s m t c ps => h r s m t c ps (zz2 h ps)
theorem zz2 {P : Dv -> Prop} (h : ∀ r s m t c ps, (∀ x ∈ ps, P x) -> P (.mk r s m t c ps)) : ∀ xs : List Dv, ∀ x ∈ xs, P x
 | [], x, hx => absurd hx (by simp)
 | a :: xs, x, hx => (List.mem_cons.1 hx).elim (fun e => e ▸ zdn h a) (zz2 h xs x)
end
mutual
def Dv.fold {α : Type} (g : Int -> Sq -> Int -> Tm -> Fm -> List Dv -> List α -> α) : Dv -> α
 | .mk r s m t c ps => g r s m t c ps (Dv.folds g ps)
def Dv.folds {α : Type} (g : Int -> Sq -> Int -> Tm -> Fm -> List Dv -> List α -> α) : List Dv -> List α
 | [] => []
 | a :: xs => Dv.fold g a :: Dv.folds g xs
end
theorem Dv.folds_map {α : Type} (g : Int -> Sq -> Int -> Tm -> Fm -> List Dv -> List α -> α) (xs : List Dv) : Dv.folds g xs = xs.map (Dv.fold g) := by
 induction xs with
 | nil => rfl
 | cons a xs ih => rw [Dv.folds, ih]; rfl
theorem Dv.fold_eq {α : Type} (g : Int -> Sq -> Int -> Tm -> Fm -> List Dv -> List α -> α) (a : Dv) : Dv.fold g a = g a.rule a.seq a.main a.term a.cut a.parts (a.parts.map (Dv.fold g)) := by
 cases a; rw [Dv.fold, Dv.folds_map]; rfl
def dvC : Dv -> List T := Dv.fold fun r s m t c _ rs => [.int .i64 r, .sl 5 (s.left.map fmC), .sl 5 (s.right.map fmC), .int .i64 m, .str t.name, .sl 2 (t.args.map tmC), .int .i64 c.op, .str c.atom.name, .sl 2 (c.atom.args.map tmC), .str c.var, .sl 5 (c.parts.map fmC), .sl 12 rs]
theorem zav (a : Dv) : dvC a = [.int .i64 a.rule, .sl 5 (a.seq.left.map fmC), .sl 5 (a.seq.right.map fmC), .int .i64 a.main, .str a.term.name, .sl 2 (a.term.args.map tmC), .int .i64 a.cut.op, .str a.cut.atom.name, .sl 2 (a.cut.atom.args.map tmC), .str a.cut.var, .sl 5 (a.cut.parts.map fmC), .sl 12 (a.parts.map dvC)] := Dv.fold_eq _ a
theorem zbo (r : Int) (s : Sq) (m : Int) (t : Tm) (c : Fm) (ps : List Dv) : dvC (.mk r s m t c ps) = [.int .i64 r, .sl 5 (s.left.map fmC), .sl 5 (s.right.map fmC), .int .i64 m, .str t.name, .sl 2 (t.args.map tmC), .int .i64 c.op, .str c.atom.name, .sl 2 (c.atom.args.map tmC), .str c.var, .sl 5 (c.parts.map fmC), .sl 12 (ps.map dvC)] := zav _
abbrev dvD (a : Dv) : D := .agg (dvC a)
abbrev dvS (xs : List Dv) : T := .sl 12 (xs.map dvC)
def Dv.wt : Dv -> Nat := Dv.fold fun _ s _ t c ps rs => s.wt + t.wt + c.wt + (ps.length + rs.sum)
theorem Dv.wt_eq (a : Dv) : a.wt = a.seq.wt + a.term.wt + a.cut.wt + (a.parts.length + (a.parts.map Dv.wt).sum) := Dv.fold_eq _ a
def zpd (xs : List Dv) : Nat := xs.length + (xs.map Dv.wt).sum
end Go.Proofs.YtemnhgmgeijkcaaGreat
namespace Go.Proofs.YtemnhgmgeijkcaaGreat
set_option linter.unusedSimpArgs false
set_option linter.unusedVariables false
set_option linter.unusedSectionVars false
set_option maxRecDepth 4000
open Go.RowKit
theorem zoa : ∀ d, zb4 Tryz.prog 58 d -> ∃ a : Dv, d.cells = dvC a :=
 zkw fun d ih h => by
  obtain ⟨fs, rfl, hf⟩ := h.st Tryz.underlying58
  have hf : zdo Tryz.prog [3, 55, 3, 24, 27, 56] fs := hf
  obtain ⟨x1, r1, rfl, h1, hf⟩ := hf.cons
  obtain ⟨x2, r2, rfl, h2, hf⟩ := hf.cons
  obtain ⟨x3, r3, rfl, h3, hf⟩ := hf.cons
  obtain ⟨x4, r4, rfl, h4, hf⟩ := hf.cons
  obtain ⟨x5, r5, rfl, h5, hf⟩ := hf.cons
  obtain ⟨x6, r6, rfl, h6, hf⟩ := hf.cons
  obtain rfl := hf.nil
  obtain ⟨r, rfl⟩ := h1.int Tryz.underlying3
  obtain ⟨s, hs⟩ := zx7 h2
  obtain ⟨m, rfl⟩ := h3.int Tryz.underlying3
  obtain ⟨t, ht⟩ := zz3 _ h4
  obtain ⟨c, hc⟩ := zmg _ h5
  obtain ⟨xs, rfl, hx⟩ := h6.sl Tryz.underlying56
  obtain ⟨l, hl⟩ := zfd dvC xs fun x hx' => ih x (by have := List.sizeOf_lt_of_mem hx'; simp; omega) (hx x hx')
  exact ⟨.mk r s m t c l, by
   rw [zav, PD.cells, PD.flat, PD.flat, PD.flat, PD.flat, PD.flat, PD.flat, PD.flat, PD.cells, PD.cells, PD.cells, hl, hs, ht, hc, zah, zab, zaa, show Tryz.prog.cellsOf 58 = 12 from by kernel_rfl]; rfl⟩
end Go.Proofs.YtemnhgmgeijkcaaGreat
namespace Go.Proofs.YtemnhgmgeijkcaaGreat
set_option linter.unusedSimpArgs false
set_option linter.unusedVariables false
set_option linter.unusedSectionVars false
set_option maxRecDepth 4000
open Go.RowKit
def zgb (b : UInt8) : Bool := decide (97 <= (b.toNat : Int)) && decide ((b.toNat : Int) <= 122)
def qgf (b : UInt8) : Bool := decide (48 <= (b.toNat : Int)) && decide ((b.toNat : Int) <= 57)
def zlx (b : UInt8) : Bool := decide (65 <= (b.toNat : Int)) && decide ((b.toNat : Int) <= 90)
def znf (b : UInt8) : Bool := zgb b || qgf b
abbrev uD (b : UInt8) : D := .one (.int .u8 b.toNat)
theorem zhp (b : UInt8) : FC Tryz.prog 275 [uD b] [bD (zgb b)] := by
 unfold zgb
 refine zag Tryz.call275 Tryz.func275 rfl (by kernel_rfl) (zau (by kernel_rfl)) ?_
 simp -implicitDefEqProofs only [go_sem, Tryz.results275]
 refine ⟨fun h => ?_, fun h => ?_⟩ <;> simp at h ⊢ <;> omega
theorem zpf (b : UInt8) : FC Tryz.prog 276 [uD b] [bD (qgf b)] := by
 unfold qgf
 refine zag Tryz.call276 Tryz.func276 rfl (by kernel_rfl) (zau (by kernel_rfl)) ?_
 simp -implicitDefEqProofs only [go_sem, Tryz.results276]
 refine ⟨fun h => ?_, fun h => ?_⟩ <;> simp at h ⊢ <;> omega
theorem zq0 (b : UInt8) : FC Tryz.prog 263 [uD b] [bD (zlx b)] := by
 unfold zlx
 refine zag Tryz.call263 Tryz.func263 rfl (by kernel_rfl) (zau (by kernel_rfl)) ?_
 simp -implicitDefEqProofs only [go_sem, Tryz.results263]
 refine ⟨fun h => ?_, fun h => ?_⟩ <;> simp at h ⊢ <;> omega
def inB (n lo hi : Int) : Bool := decide (lo <= n) && decide (n <= hi)
theorem zb3 (n lo hi : Int) : FC Tryz.prog 204 [iD n, iD lo, iD hi] [bD (inB n lo hi)] := by
 unfold inB
 refine zag Tryz.call204 Tryz.func204 rfl (by kernel_rfl) (zau (by kernel_rfl)) ?_
 simp -implicitDefEqProofs only [go_sem, Tryz.results204]
 refine ⟨fun h => ?_, fun h => ?_⟩ <;> simp at h ⊢ <;> omega
theorem zfv (n lo hi : Int) : FC Tryz.prog 195 [iD n, iD lo, iD hi] [bD (inB n lo hi)] := by
 unfold inB
 refine zag Tryz.call195 Tryz.func195 rfl (by kernel_rfl) (zau (by kernel_rfl)) ?_
 simp -implicitDefEqProofs only [go_sem, Tryz.results195]
 refine ⟨fun h => ?_, fun h => ?_⟩ <;> simp at h ⊢ <;> omega
theorem qhf (a b : Int) : FC Tryz.prog 296 [iD a, iD b] [iD (max a b)] := by
 refine zag Tryz.call296 Tryz.func296 rfl (by kernel_rfl) (zau (by kernel_rfl)) ?_
 simp -implicitDefEqProofs only [go_sem, Tryz.results296]
 refine ⟨fun h => ?_, fun h => ?_⟩ <;> simp at h <;> exact zq7 (by omega)
theorem zq2 (b : UInt8) : FC Tryz.prog 273 [uD b] [bD (znf b)] := by
 unfold znf zgb qgf
 refine zag Tryz.call273 Tryz.func273 rfl (by kernel_rfl) (zau (by kernel_rfl)) ?_
 simp -implicitDefEqProofs only [go_sem, Tryz.results273]
 simp only [T.bool.injEq, decide_eq_true_eq, decide_eq_false_iff_not]
 refine ⟨fun h => ⟨fun h2 => ⟨fun h3 => ?_, fun h3 => ?_⟩, fun h2 => ?_⟩, fun h => ⟨fun h2 => ?_, fun h2 => ?_⟩⟩ <;> simp [h, h2] <;> omega
def zsa : Str -> Bool
 | [] => true
 | c :: cs => zlx c && cs.all znf
def zbc (s : Str) : Bool := zsa s && inB s.length 1 4
theorem zdz (s : Str) : FC Tryz.prog 228 [sD s] [bD (zbc s)] := by
 refine zc7 (fun hw => ?_) Tryz.call228
 have hl : s.length <= 9223372036854775807 := by simpa [zfj, wfT] using hw.1
 refine zag Tryz.call228 Tryz.func228 rfl (by kernel_rfl) (zau (by kernel_rfl)) ?_
 simp -implicitDefEqProofs only [go_sem, Tryz.results228]
 refine zad (fun k : Nat => hd [(0, vT (.str s)), (5, vI s.length), (6, vI k)] [] []) (fun k => k <= s.length /\ zsa s = if k = 0 then zsa s else (s.drop k).all znf) (fun k => s.length - k) 0 (zac ?_) ?_ ?_
 ·simp -implicitDefEqProofs only [go_sem]
 ·simp
 ·intro k ⟨hk, hr⟩
  by_cases hlt : k < s.length
  ·by_cases h0 : k = 0
   ·subst h0
    have hl0 : (0 : Int) < s.length := by omega
    have he : zsa s = (zlx (s.getD 0 0) && (s.drop 1).all znf) := by cases s; exact absurd hlt (by simp); rfl
    simp -implicitDefEqProofs only [go_sem, hlt, hl0]
    refine callF (zq0 (s.getD 0 0)) (by simp -implicitDefEqProofs only [go_sem]) ?_
    simp -implicitDefEqProofs only [go_sem]
    refine ⟨fun h => ⟨1, ⟨hlt, ?_⟩, by omega, zac (by simp -implicitDefEqProofs only [go_sem]; rw [zbk (by omega) (by omega)])⟩, fun h => ?_⟩
    ·have : zlx (s.getD 0 0) = true := by simpa using h
     rw [he, this]; rfl
    ·have : zlx (s.getD 0 0) = false := by simpa using h
     rw [zbc, he, this]; rfl
   ·have h1 : ((k : Int) == 0) = false := by simp; omega
    have h2 : (0 : Int) < k := by omega
    have hg : s.getD k 0 = s[k] := by simp [List.getD, hlt]
    rw [if_neg h0, List.drop_eq_getElem_cons hlt, List.all_cons] at hr
    simp -implicitDefEqProofs only [go_sem, hlt, h1, h2]
    refine callF (zhp (s.getD k 0)) (by simp -implicitDefEqProofs only [go_sem]) ?_
    simp -implicitDefEqProofs only [go_sem]
    simp only [hg]
    refine ⟨fun h => ⟨hlt, ?_⟩, fun h => ?_⟩
    ·refine callF (zpf s[k]) (by simp -implicitDefEqProofs only [go_sem]) ?_
     simp -implicitDefEqProofs only [go_sem]
     refine ⟨fun h' => ?_, fun h' => ⟨k + 1, ⟨hlt, ?_⟩, by omega, zac (by simp -implicitDefEqProofs only [go_sem]; rw [zas (by omega)])⟩⟩
     ·have : znf s[k] = false := by simp [znf]; simp at h h'; exact ⟨h, h'⟩
      simp [zbc, hr, this]
     ·have : znf s[k] = true := by simp [znf]; right; simpa using h'
      rw [hr, this]; simp
    ·refine ⟨k + 1, ⟨hlt, ?_⟩, by omega, zac (by simp -implicitDefEqProofs only [go_sem]; rw [zas (by omega)])⟩
     have : znf s[k] = true := by simp [znf]; left; simpa using h
     rw [hr, this]; simp
  ·simp -implicitDefEqProofs only [go_sem, hlt]
   refine callF (zb3 s.length 1 4) (by simp -implicitDefEqProofs only [go_sem]) ?_
   simp -implicitDefEqProofs only [go_sem]
   have : zsa s = true := by
    by_cases h0 : k = 0
    ·have : s = [] := List.length_eq_zero_iff.1 (by omega)
     rw [this]; rfl
    ·rw [hr, if_neg h0, List.drop_of_length_le (by omega)]; rfl
   simp [zbc, this]
end Go.Proofs.YtemnhgmgeijkcaaGreat
namespace Go.Proofs.YtemnhgmgeijkcaaGreat
set_option linter.unusedSimpArgs false
set_option linter.unusedVariables false
set_option linter.unusedSectionVars false
set_option maxRecDepth 4000
open Go.RowKit
abbrev zcm (xs : List Str) : T := .sl 1 (xs.map fun s => [.str s])
theorem zzb {α : Type} [BEq α] [LawfulBEq α] {xs : List α} {s : α} {k : Nat} (hk : k < xs.length) (hn : s ∉ xs.take k) (e : xs[k] = s) : xs.idxOf s = k := by
 have h : xs = xs.take k ++ xs.drop k := (List.take_append_drop k xs).symm
 rw [List.drop_eq_getElem_cons hk] at h
 rw [h, List.idxOf_append, if_neg hn, e]
 rw [show (s :: xs.drop (k + 1)).idxOf s = 0 from List.idxOf_cons_self ..]
 simp; omega
theorem zhn {α : Type} {xs : List α} {s : α} {k : Nat} (hk : k < xs.length) (hn : s ∉ xs.take k) (e : xs[k] ≠ s) : s ∉ xs.take (k + 1) := by
 rw [List.take_succ_eq_append_getElem hk]
 simp only [List.mem_append, List.mem_singleton, not_or]
 exact ⟨hn, fun h => e h.symm⟩
def idxS {α : Type} [BEq α] (xs : List α) (s : α) : Int := if xs.contains s then xs.idxOf s else -1
theorem zyh (xs : List Str) (s : Str) : FC Tryz.prog 236 [.one (zcm xs), sD s] [iD (idxS xs s)] := by
 refine zc7 (fun hw => ?_) Tryz.call236
 have hl : xs.length <= 9223372036854775807 := by simpa [zfj, wfT] using hw.1.1
 refine zag Tryz.call236 Tryz.func236 rfl (by kernel_rfl) (zau (by kernel_rfl)) ?_
 simp -implicitDefEqProofs only [go_sem, Tryz.results236]
 refine zad (fun k : Nat => hd [(0, vT (zcm xs)), (1, vT (.str s)), (7, vI xs.length), (8, vI k)] [] []) (fun k => k <= xs.length /\ s ∉ xs.take k) (fun k => xs.length - k) 0 (zac ?_) ?_ ?_
 ·simp -implicitDefEqProofs only [go_sem]
 ·simp
 ·intro k ⟨hk, hr⟩
  by_cases hlt : k < xs.length
  ·simp -implicitDefEqProofs only [go_sem, zaf, hlt]
   refine ⟨fun h => ?_, fun h => ?_⟩
   ·have e : xs[k] = s := (beq_iff_eq.1 h).symm
    have hm : s ∈ xs := e ▸ List.getElem_mem hlt
    rw [idxS, if_pos (by simpa using hm), zzb hlt hr e]
   ·have e : xs[k] ≠ s := fun e => by simp [e] at h
    exact ⟨k + 1, ⟨hlt, zhn hlt hr e⟩, by omega, zac (by simp -implicitDefEqProofs only [go_sem]; rw [zas (by omega)])⟩
  ·simp -implicitDefEqProofs only [go_sem, hlt]
   rw [List.take_of_length_le (by omega)] at hr
   rw [idxS, if_neg (by simpa using hr)]
theorem zcv (xs : List Str) (s : Str) : FC Tryz.prog 171 [.one (zcm xs), sD s] [bD (xs.contains s)] := by
 refine zag Tryz.call171 Tryz.func171 rfl (by kernel_rfl) (zau (by kernel_rfl)) ?_
 simp -implicitDefEqProofs only [go_sem, Tryz.results171]
 refine callF (zyh xs s) (by simp -implicitDefEqProofs only [go_sem]) ?_
 simp -implicitDefEqProofs only [go_sem]
 unfold idxS
 cases h : xs.contains s <;> simp
def zt0 : List Str := [[116, 114, 117, 101], [102, 97, 108, 115, 101], [116, 114, 117, 116, 104], [98, 111, 116, 104], [101, 105, 116, 104, 101, 114], [105, 102], [97, 108, 108], [115, 111, 109, 101]]
theorem zw8 : FC Tryz.prog 291 [] [.one (zcm zt0)] := by
 refine zag Tryz.call291 Tryz.func291 rfl (by kernel_rfl) (zau (by kernel_rfl)) ?_
 simp -implicitDefEqProofs only [go_sem, Tryz.results291]
 refine zal (by simp -implicitDefEqProofs only [go_sem]) ?_
 simp -implicitDefEqProofs only [go_sem]
 rfl
def znm (b : UInt8) : Bool := znf b || b == 95
def zkj : Str -> Bool
 | [] => true
 | c :: cs => zgb c && cs.all znm
def zc4 (s : Str) : Bool := zkj s && inB s.length 1 6 && !zt0.contains s
theorem qj7 {b : UInt8} {n : Nat} (hn : n < 256) : ((b.toNat : Int) == (n : Int)) = (b == UInt8.ofNat n) := by
 rw [Bool.eq_iff_iff]
 simp only [beq_iff_eq]
 constructor
 ·intro h
  apply UInt8.toNat_inj.1
  simp [UInt8.toNat_ofNat]
  omega
 ·intro h
  subst h
  simp [UInt8.toNat_ofNat]
  omega
theorem zmv (s : Str) : FC Tryz.prog 261 [sD s] [bD (zc4 s)] := by
 refine zc7 (fun hw => ?_) Tryz.call261
 have hl : s.length <= 9223372036854775807 := by simpa [zfj, wfT] using hw.1
 refine zag Tryz.call261 Tryz.func261 rfl (by kernel_rfl) (zau (by kernel_rfl)) ?_
 simp -implicitDefEqProofs only [go_sem, Tryz.results261]
 refine zad (fun k : Nat => hd [(0, vT (.str s)), (5, vI s.length), (6, vI k)] [] []) (fun k => k <= s.length /\ zkj s = if k = 0 then zkj s else (s.drop k).all znm) (fun k => s.length - k) 0 (zac ?_) ?_ ?_
 ·simp -implicitDefEqProofs only [go_sem]
 ·simp
 ·intro k ⟨hk, hr⟩
  by_cases hlt : k < s.length
  ·by_cases h0 : k = 0
   ·subst h0
    have hl0 : (0 : Int) < s.length := by omega
    have he : zkj s = (zgb (s.getD 0 0) && (s.drop 1).all znm) := by cases s; exact absurd hlt (by simp); rfl
    simp -implicitDefEqProofs only [go_sem, hlt, hl0]
    refine callF (zhp (s.getD 0 0)) (by simp -implicitDefEqProofs only [go_sem]) ?_
    simp -implicitDefEqProofs only [go_sem]
    refine ⟨fun h => ⟨hl0, ?_⟩, fun h => ?_⟩
    ·have hi : zgb (s.getD 0 0) = true := by simpa using h
     refine callF (zhp (s.getD 0 0)) (by simp -implicitDefEqProofs only [go_sem, hi]) ?_
     simp -implicitDefEqProofs only [go_sem, hi]
     refine ⟨1, ⟨hlt, ?_⟩, by omega, zac (by simp -implicitDefEqProofs only [go_sem]; rw [zbk (by omega) (by omega)])⟩
     rw [he, hi]; rfl
    ·have : zgb (s.getD 0 0) = false := by simpa using h
     rw [zc4, he, this]; rfl
   ·have h1 : ((k : Int) == 0) = false := by simp; omega
    have h2 : (0 : Int) < k := by omega
    have hg : s.getD k 0 = s[k] := by simp [List.getD, hlt]
    rw [if_neg h0, List.drop_eq_getElem_cons hlt, List.all_cons] at hr
    simp -implicitDefEqProofs only [go_sem, hlt, h1, h2]
    refine callF (zhp (s.getD k 0)) (by simp -implicitDefEqProofs only [go_sem]) ?_
    simp -implicitDefEqProofs only [go_sem]
    simp only [hg]
    refine ⟨fun h => ⟨hlt, ?_⟩, fun h => ?_⟩
    ·refine callF (zpf s[k]) (by simp -implicitDefEqProofs only [go_sem]) ?_
     simp -implicitDefEqProofs only [go_sem]
     simp only [hg]
     refine ⟨fun h' => ⟨hlt, fun h'' => ?_, fun h'' => ⟨k + 1, ⟨hlt, ?_⟩, by omega, zac (by simp -implicitDefEqProofs only [go_sem]; rw [zas (by omega)])⟩⟩, fun h' => ⟨k + 1, ⟨hlt, ?_⟩, by omega, zac (by simp -implicitDefEqProofs only [go_sem]; rw [zas (by omega)])⟩⟩
     ·have : znm s[k] = false := by
       have := qj7 (b := s[k]) (n := 95) (by omega)
       simp [znm, znf] at h h' ⊢
       refine ⟨⟨h, h'⟩, fun e => ?_⟩
       rw [e] at h''
       simp at h''
      rw [zc4, hr, this]; rfl
     ·have : znm s[k] = true := by
       have := qj7 (b := s[k]) (n := 95) (by omega)
       simp [znm] at h'' ⊢
       right
       simpa [h''] using this
      rw [hr, this]; rfl
     ·have : znm s[k] = true := by simp [znm, znf]; simp at h'; simp [h']
      rw [hr, this]; rfl
    ·refine ⟨k + 1, ⟨hlt, ?_⟩, by omega, zac (by simp -implicitDefEqProofs only [go_sem]; rw [zas (by omega)])⟩
     have : znm s[k] = true := by simp [znm, znf]; simp at h; simp [h]
     rw [hr, this]; rfl
  ·simp -implicitDefEqProofs only [go_sem, hlt]
   refine callF (zb3 s.length 1 6) (by simp -implicitDefEqProofs only [go_sem]) ?_
   simp -implicitDefEqProofs only [go_sem]
   have ha : zkj s = true := by
    by_cases h0 : k = 0
    ·have : s = [] := List.length_eq_zero_iff.1 (by omega)
     rw [this]; rfl
    ·rw [hr, if_neg h0, List.drop_of_length_le (by omega)]; rfl
   refine ⟨fun h => ?_, fun h => ?_⟩
   ·refine callF (zw8) (by simp -implicitDefEqProofs only [go_sem]) ?_
    simp -implicitDefEqProofs only [go_sem]
    refine callF (zcv zt0 s) (by simp -implicitDefEqProofs only [go_sem]) ?_
    simp -implicitDefEqProofs only [go_sem]
    rw [zc4, ha, h]; rfl
   ·rw [zc4, ha, h]; rfl
end Go.Proofs.YtemnhgmgeijkcaaGreat
namespace Go.Proofs.YtemnhgmgeijkcaaGreat
set_option linter.unusedSimpArgs false
set_option linter.unusedVariables false
set_option linter.unusedSectionVars false
set_option maxRecDepth 4000
open Go.RowKit Go.Sort Go.Proofs
variable {P : Program}
theorem zuk {w : World} : ∀ {ss : List Str} {vs : List Value} {fps : List Nat}, za8 w (ss.map T.str) vs fps -> vs = ss.map encStr /\ fps = [] /\ ∀ s ∈ ss, s.length <= zgk
 | [], vs, fps, h => ⟨h.1, h.2, by simp⟩
 | s :: ss, vs, fps, h => by
  obtain ⟨v, vs', f1, f2, rfl, rfl, h1, h2⟩ := h
  unfold za7 at h1
  obtain ⟨rfl, k1, rfl⟩ := h1
  obtain ⟨rfl, rfl, k2⟩ := zuk h2
  exact ⟨rfl, rfl, fun x hx => (List.mem_cons.1 hx).elim (fun e => e ▸ k1) (k2 x)⟩
theorem zuh {w : World} : ∀ {ss : List Str}, (∀ s ∈ ss, s.length <= zgk) -> za8 w (ss.map T.str) (ss.map encStr) []
 | [], _ => ⟨rfl, rfl⟩
 | s :: ss, h => ⟨_, _, [], [], rfl, rfl, by unfold za7; exact ⟨rfl, h s (by simp), rfl⟩, zuh fun x hx => h x (by simp [hx])⟩
theorem zk5 (ss : List Str) : (ss.map fun s => [T.str s]).flatten = ss.map T.str := by induction ss <;> simp_all
theorem qdu (ss : List Str) : lens 1 (ss.map fun s => [T.str s]) := fun r hr => by obtain ⟨s, _, rfl⟩ := List.mem_map.1 hr; rfl
abbrev zjq (ss : List Str) : List Str := ss.mergeSort leB
theorem qmy {f : FuncId} (hc : zbr P f) (hS : ∀ (blk off cap : Nat) (ss : List (List UInt8)) (w : World), Holds encStr w blk off ss.toArray -> blk < w.heap.size -> ss.length < 4611686018427387904 →
   Calls P f #[.slice (some ⟨blk, off, none⟩) ss.length cap] w fun e w' => e = .returned (.tuple #[]) /\ ∃ n os, w' = grow (putRow encStr (Sort.ahead w n) blk off (ss.mergeSort fun x y => decide (x <= y)).toArray) os)
  (hN : ∀ (p : Option Addr) (cap : Nat) (w : World), Calls P f #[.slice p 0 cap] w fun e w' => e = .returned (.tuple #[]) /\ w' = w) (ss : List Str) (hl : ss.length < 4611686018427387904) : IC P f [] (.one (zcm ss)) [] (.one (zcm (zjq ss))) [] := by
 refine ⟨hc, fun w us1 v us2 fp tp h1 hg h2 hn => ?_⟩
 rw [show us1 = [] from h1, show us2 = [] from h2]
 obtain ⟨hg, _⟩ := hg
 unfold za7 at hg
 obtain ⟨ao, cap, rfl, q1, q2, q3⟩ := hg
 rw [List.length_map] at q1 ⊢
 rcases q3 with ⟨rfl, rfl, q3, rfl⟩ | ⟨b, cells, ty, fps, rfl, rfl, q3, q4, q5⟩
 ·have hs : ss = [] := List.map_eq_nil_iff.1 q3
  subst hs
  refine (hN none 0 w).mono ?_
  rintro e w' ⟨rfl, rfl⟩
  refine ⟨[], [], [], rfl, ⟨_, [], [], [], [], [], rfl, rfl, rfl, ⟨?_, rfl⟩, rfl, rfl, rfl⟩, List.nodup_nil, by simp, Bk.refl _ _⟩
  unfold za7
  exact ⟨none, 0, by simp [zjq], by simp [zjq], by simp, Or.inl ⟨rfl, rfl, by simp [zjq], rfl⟩⟩
 ·obtain ⟨_, vs, k1, k2, k3⟩ := q5.vals
  rw [zk5] at k3
  obtain ⟨rfl, rfl, k4⟩ := zuk k3
  have hsz : ss.length <= cells.size := by omega
  have ht : cells.toList.take ss.length = ss.map encStr := by
   apply List.ext_getElem?
   intro j
   by_cases hj : j < ss.length
   ·rw [List.getElem?_take_of_lt hj, Array.getElem?_toList]
    have := k2 j _ (List.getElem?_eq_getElem (by simpa using hj))
    rw [Nat.zero_add] at this
    rw [this, List.getElem?_eq_getElem (by simpa using hj)]
   ·rw [List.getElem?_take_eq_none (by omega), List.getElem?_eq_none (by simp; omega)]
  refine (hS b 0 cap ss w (holds_of_block q3 ht) (Array.getElem?_eq_some_iff.1 q3).1 hl).mono ?_
  rintro e w' ⟨rfl, n, os, rfl⟩
  have hgr := grownBy_sorted (w := w) (g := b) (n := n) (os := os) (ss.mergeSort fun x y => decide (x <= y)).toArray
  have hlen : (zjq ss).length = ss.length := by simp [zjq]
  have htk := take_putCells cells (zjq ss) (by omega)
  refine ⟨[], [b], [b], rfl, ⟨_, [], [b], [], [b], [], rfl, rfl, rfl, ⟨?_, rfl⟩, rfl, rfl, rfl⟩, by simp, fun x hx => Or.inl hx, ⟨hgr.os, hgr.tape, hgr.output, hgr.size, fun k hk => hgr.block k hk.1 fun e => hk.2 (by cases e; simp)⟩⟩
  unfold za7
  refine ⟨_, cap, by rw [List.length_map, hlen], by rw [List.length_map, hlen]; exact q1, q2, Or.inr ⟨b, _, ty, [], rfl, rfl, heap_sorted _ q3, by simp [putCells, q4], ?_⟩⟩
  refine zam.of_vals (qdu _) (by rw [zk5]; exact zuh fun s hs => k4 s ((List.mergeSort_perm ss leB).mem_iff.1 hs)) fun j u hu => ?_
  rw [<- htk, List.getElem?_take] at hu
  split at hu
  ·simpa using hu
  ·cases hu
structure CloneOf (P : Program) (f : FuncId) (sz bytes : Nat) : Prop where
 call : zbr P f
 old : ∀ (ad : Addr) (n c : Nat) (news : List Value) (w : World), news.length = n * sz -> n <= maxLen -> n * bytes <= 140737488355328 -> (∀ j u, news[j]? = some u -> w.cell? (ad.add j) = some u) -> (∀ u ∈ news, u.oneCell' = true) →
  Calls P f #[.slice (some ad) n c] w fun e w' => ∃ t v', e = .returned v' /\ w'.ownsRow w.heap.size t sz v' n news /\ v' ≠ .slice none 0 0 /\ Below w.heap.size w w'
 none : ∀ (n c : Nat) (w : World), Calls P f #[.slice none n c] w fun e w' => e = .returned (.slice none 0 0) /\ w' = w
theorem zay.valsA {w : World} {A : Nat -> Prop} {b sz : Nat} {rows : List (List T)} {o : Nat} (h : zay w A b o sz rows) : ∃ vs, vs.length = rows.length * sz /\ (∀ j u, vs[j]? = some u -> w.cell? ⟨b, o + j, none⟩ = some u) /\ zai w A rows.flatten vs /\ lens sz rows := by
 obtain ⟨h1, vs, h2, h3, h4⟩ := h.vals
 exact ⟨vs, h2, h3, h4, h1⟩
theorem zz9 {f : FuncId} {sz bytes : Nat} (h : CloneOf P f sz bytes) (rows : List (List T)) (hb : rows.length * bytes <= 140737488355328) {w : World} {A : Nat -> Prop} {v : Value} (h1 : zaw w A (.sl sz rows) v) :
  Calls P f #[v] w fun e w' => ∃ v', e = .returned v' /\ Below w.heap.size w w' /\ ((v' = .slice none 0 0 /\ rows = []) \/ ∃ g cap cur ty vs, v' = .slice (some ⟨g, 0, none⟩) rows.length cap /\ w.heap.size <= g /\ w'.heap[g]? = some (.cells cur ty (0, 0)) /\ rows.length <= cap /\ cap <= zgk /\ cur.size = cap * sz /\ cur.toList.take (rows.length * sz) = vs /\ zai w A rows.flatten vs /\ lens sz rows) := by
 unfold zaw at h1
 obtain ⟨ao, cap, rfl, q1, q2, q3⟩ := h1
 cases ao with
 | none =>
  have hr : rows = [] := q3.resolve_right fun ⟨b, o, e, _⟩ => by cases e
  refine (h.none rows.length cap w).mono ?_
  rintro e w' ⟨rfl, rfl⟩
  exact ⟨_, rfl, Below.refl _ _, Or.inl ⟨rfl, hr⟩⟩
 | some ad =>
  have hx : ∃ news : List Value, news.length = rows.length * sz /\ (∀ j u, news[j]? = some u -> w.cell? (ad.add j) = some u) /\ zai w A rows.flatten news /\ lens sz rows := by
   rcases q3 with rfl | ⟨b', o', e, _, q4⟩
   ·exact ⟨[], by simp, fun j u hj => by simp at hj, by unfold zai; rfl, fun r hr => by simp at hr⟩
   ·cases e
    obtain ⟨news, k1, k2, k3, k4⟩ := q4.valsA
    exact ⟨news, k1, fun j u hj => by rw [zfo]; exact k2 j u hj, k3, k4⟩
  obtain ⟨news, k1, k2, k3, k4⟩ := hx
  refine (h.old ad rows.length cap news w k1 (by unfold maxLen; have := q2; unfold zgk at this; omega) hb k2 k3.one).mono ?_
  rintro e w' ⟨t, v', rfl, ⟨o1, o2⟩, hn, hbel⟩
  refine ⟨v', rfl, hbel, Or.inr ?_⟩
  rcases o2 with ⟨e, _⟩ | ⟨g, cap', cur, e, p1, p2, p3, p4, p5, p6⟩
  ·exact absurd e hn
  ·exact ⟨g, cap', cur, t, news, e, p1, p2, p3, by unfold maxLen at p4; omega, p5, p6, k3, k4⟩
theorem qmf {cur : Array Value} {vs : List Value} {n : Nat} (h : cur.toList.take n = vs) : ∀ j u, vs[j]? = some u -> cur[0 + j]? = some u := fun j u hu => by
 rw [<- h, List.getElem?_take] at hu
 split at hu
 ·simpa using hu
 ·cases hu
theorem qhx {f : FuncId} {sz bytes : Nat} (h : CloneOf P f sz bytes) (rows : List (List T)) (hb : rows.length * bytes <= 140737488355328) (hf : ∀ c ∈ rows.flatten, c.flat = true) : FC P f [.one (.sl sz rows)] [.one (.sl sz rows)] := by
 refine ⟨h.call, fun w vs fp tp hv hn => ?_⟩
 obtain ⟨hr, rfl, rfl⟩ := zey hv
 obtain ⟨v, _, rfl, h1, rfl⟩ := hr
 refine (zz9 h rows hb h1).mono ?_
 rintro e w' ⟨v', rfl, hbel, hh⟩
 have hB : Bk (fun k => k < w.heap.size /\ k ∉ ([] : List Nat)) w w' := ⟨hbel.os, hbel.tape, hbel.output, hbel.size, fun k hk => hbel.block k hk.1⟩
 rcases hh with ⟨rfl, hr⟩ | ⟨g, cap, cur, ty, vs, rfl, p1, p2, p3, p4, p5, p6, p7, p8⟩
 ·subst hr
  refine ⟨[_], [], [], rfl, ⟨_, [], [], [], [], [], rfl, rfl, rfl, ⟨?_, rfl⟩, rfl, rfl, rfl⟩, List.nodup_nil, by simp, hB⟩
  unfold za7
  exact ⟨Option.none, 0, rfl, Nat.le_refl _, by simp, Or.inl ⟨rfl, rfl, rfl, rfl⟩⟩
 ·refine ⟨[_], [g], [g], rfl, ⟨_, [], [g], [], [g], [], rfl, rfl, rfl, ⟨?_, rfl⟩, rfl, rfl, rfl⟩, by simp, fun b hb => by rw [List.mem_singleton.1 hb]; exact Or.inr p1, hB⟩
  unfold za7
  refine ⟨_, cap, rfl, p3, p4, Or.inr ⟨g, cur, ty, [], rfl, rfl, p2, p5, ?_⟩⟩
  have hown := zai.own p7 hf
  exact zam.of_vals p8 (za8.keep hown fun b hb => by simp at hb) fun j u hu => qmf p6 j u hu
theorem zo0 (a b : Str) : Op.bytesLess a b = decide (a < b) := bytesLess_eq a b
def Srt (xs : List Str) : Prop := xs.Pairwise (· < ·)
theorem zni (a : Str) : ¬ a < a := List.lt_irrefl a
theorem zpr {xs : List Str} (h : Srt xs) : xs.Nodup := List.Pairwise.imp (fun {a b} (h : a < b) (e : a = b) => zni b (e ▸ h)) h
theorem qkj {xs ys : List Str} (hx : Srt xs) (hy : Srt ys) (h : ∀ s, s ∈ xs ↔ s ∈ ys) : xs = ys := by
 have hp : xs.Perm ys := (List.perm_ext_iff_of_nodup (zpr hx) (zpr hy)).2 h
 exact hp.eq_of_pairwise (le := fun a b => a < b) (fun a b _ _ h1 h2 => absurd (List.lt_trans h1 h2) (zni a)) hx hy
theorem qje {a b : Str} (h : a <= b) : a < b \/ a = b := by
 by_cases h1 : a < b
 ·exact Or.inl h1
 ·exact Or.inr (List.le_antisymm h (List.not_lt.1 h1))
theorem qa0 (xs : List Str) (s : Str) : s ∈ zjq xs ↔ s ∈ xs := (List.mergeSort_perm xs leB).mem_iff
theorem qbd {xs : List Str} (h : xs.Nodup) : Srt (zjq xs) := by
 have tr : ∀ a b c : List UInt8, leB a b = true -> leB b c = true -> leB a c = true := fun a b c h1 h2 => by simp only [leB, decide_eq_true_eq] at *; exact List.le_trans h1 h2
 have to : ∀ a b : List UInt8, (leB a b || leB b a) = true := fun a b => by simp only [leB, Bool.or_eq_true, decide_eq_true_eq]; exact List.le_total a b
 have hs := List.pairwise_mergeSort tr to xs
 have hn : (zjq xs).Nodup := (List.mergeSort_perm xs leB).nodup_iff.2 h
 refine (List.Pairwise.and hs hn).imp ?_
 rintro a b ⟨h1, h2⟩
 simp only [leB, decide_eq_true_eq] at h1
 exact (qje h1).resolve_right h2
def zu1 (l : List Str) (s : Str) : List Str := if (l.dropWhile fun x => Op.bytesLess x s).head? = some s then l else (l.takeWhile fun x => Op.bytesLess x s) ++ [s] ++ l.dropWhile fun x => Op.bytesLess x s
theorem qhy (l : List Str) (s x : Str) : x ∈ zu1 l s ↔ x = s \/ x ∈ l := by
 have e : l = (l.takeWhile fun x => Op.bytesLess x s) ++ l.dropWhile fun x => Op.bytesLess x s := (List.takeWhile_append_dropWhile).symm
 unfold zu1
 split
 ·rename_i h
  have : s ∈ l := by rw [e]; exact List.mem_append_right _ (List.mem_of_mem_head? h)
  exact ⟨Or.inr, fun h => h.elim (fun e => e ▸ this) id⟩
 ·conv => rhs; rw [e]
  simp only [List.mem_append, List.mem_singleton, or_assoc]
  constructor
  ·rintro (h | h | h)
   ·exact Or.inr (Or.inl h)
   ·exact Or.inl h
   ·exact Or.inr (Or.inr h)
  ·rintro (h | h | h)
   ·exact Or.inr (Or.inl h)
   ·exact Or.inl h
   ·exact Or.inr (Or.inr h)
theorem zl3 {l : List Str} {p : Str -> Bool} {x : Str} (h : (l.dropWhile p).head? = some x) : p x = false := by
 induction l with
 | nil => simp at h
 | cons a l ih =>
  rw [List.dropWhile_cons] at h
  split at h
  ·exact ih h
  ·rename_i hp; simp only [List.head?_cons, Option.some.injEq] at h; subst h; simpa using hp
theorem qhn {l : List Str} (h : Srt l) (s : Str) : Srt (zu1 l s) := by
 unfold zu1
 split
 ·exact h
 ·rename_i hne
  have e : (l.takeWhile fun x => Op.bytesLess x s) ++ (l.dropWhile fun x => Op.bytesLess x s) = l := List.takeWhile_append_dropWhile
  have h' := h
  rw [<- e] at h'
  obtain ⟨h1, h2, h3⟩ := List.pairwise_append.1 h'
  have ht : ∀ a ∈ l.takeWhile fun x => Op.bytesLess x s, a < s := fun a ha => by
   have := List.all_takeWhile (l := l) (p := fun x => Op.bytesLess x s)
   have := List.all_eq_true.1 this a ha
   rw [zo0] at this
   exact of_decide_eq_true this
  have hd : ∀ a ∈ l.dropWhile fun x => Op.bytesLess x s, s < a := fun a ha => by
   cases hD : l.dropWhile fun x => Op.bytesLess x s with
   | nil => rw [hD] at ha; simp at ha
   | cons y ys =>
    have hy := zl3 (l := l) (p := fun x => Op.bytesLess x s) (x := y) (by rw [hD]; rfl)
    have hys : s < y := by
     have h0 : ¬ y < s := by rw [zo0] at hy; exact of_decide_eq_false hy
     rcases qje (List.not_lt.1 h0) with h | h
     ·exact h
     ·exact absurd (by rw [hD, h]; rfl) hne
    rw [hD] at ha h2
    rcases List.mem_cons.1 ha with rfl | ha
    ·exact hys
    ·exact List.lt_trans hys ((List.pairwise_cons.1 h2).1 a ha)
  rw [List.append_assoc]
  refine List.pairwise_append.2 ⟨h1, ?_, fun a ha b hb => ?_⟩
  ·exact List.pairwise_cons.2 ⟨hd, h2⟩
  ·rcases List.mem_cons.1 hb with rfl | hb
   ·exact ht a ha
   ·exact h3 a ha b hb
end Go.Proofs.YtemnhgmgeijkcaaGreat
namespace Go.Proofs
open Go.Shelf
set_option maxRecDepth 100000
def Tryz.lays190_ren : Go.Shelf.Ren := ⟨fun | 190 => 118 | 125 => 185 | 258 => 184 | 128 => 256 | 129 => 257 | 302 => 247 | 303 => 248 | 304 => 249 | 305 => 250 | 306 => 251 | 307 => 252 | 308 => 253 | 309 => 254 | 310 => 255 | 333 => 285 | 329 => 286 | 330 => 287 | 334 => 288 | 335 => 289 | 336 => 290 | 344 => 297 | n => n, fun | 31 => 100 | 9 => 9 | 3 => 3 | 46 => 152 | 0 => 0 | 51 => 227 | 53 => 229 | 4 => 4 | 183 => 219 | 182 => 218 | 131 => 224 | 5 => 5 | 218 => 241 | 222 => 245 | 228 => 252 | 229 => 253 | n => n, fun | n => n⟩
theorem Tryz.lays190 : Go.Proofs.Lays.n190 Tryz.prog Tryz.lays190_ren := {
 mixed := by kernel_rfl
 f125 := Tryz.func185.trans (congrArg some (by kernel_rfl))
 f128 := Tryz.func256.trans (congrArg some (by kernel_rfl))
 f129 := Tryz.func257.trans (congrArg some (by kernel_rfl))
 f190 := Tryz.func118.trans (congrArg some (by kernel_rfl))
 f258 := Tryz.func184.trans (congrArg some (by kernel_rfl))
 f302 := Tryz.func247.trans (congrArg some (by kernel_rfl))
 f303 := Tryz.func248.trans (congrArg some (by kernel_rfl))
 f304 := Tryz.func249.trans (congrArg some (by kernel_rfl))
 f305 := Tryz.func250.trans (congrArg some (by kernel_rfl))
 f306 := Tryz.func251.trans (congrArg some (by kernel_rfl))
 f307 := Tryz.func252.trans (congrArg some (by kernel_rfl))
 f308 := Tryz.func253.trans (congrArg some (by kernel_rfl))
 f309 := Tryz.func254.trans (congrArg some (by kernel_rfl))
 f310 := Tryz.func255.trans (congrArg some (by kernel_rfl))
 f329 := Tryz.func286.trans (congrArg some (by kernel_rfl))
 f330 := Tryz.func287.trans (congrArg some (by kernel_rfl))
 f333 := Tryz.func285.trans (congrArg some (by kernel_rfl))
 f334 := Tryz.func288.trans (congrArg some (by kernel_rfl))
 f335 := Tryz.func289.trans (congrArg some (by kernel_rfl))
 f336 := Tryz.func290.trans (congrArg some (by kernel_rfl))
 f344 := Tryz.func297.trans (congrArg some (by kernel_rfl))
 t0 := Tryz.underlying0
 a0 := Tryz.isAgg0
 z0 := Tryz.sizeOf0
 v0 := Tryz.zeroValue0
 t3 := Tryz.underlying3
 a3 := Tryz.isAgg3
 z3 := Tryz.sizeOf3
 v3 := Tryz.zeroValue3
 t4 := Tryz.underlying4
 a4 := Tryz.isAgg4
 z4 := Tryz.sizeOf4
 v4 := Tryz.zeroValue4
 t5 := Tryz.underlying5
 a5 := Tryz.isAgg5
 z5 := Tryz.sizeOf5
 v5 := Tryz.zeroValue5
 t9 := Tryz.underlying9
 a9 := Tryz.isAgg9
 z9 := Tryz.sizeOf9
 v9 := Tryz.zeroValue9
 t31 := Tryz.underlying100
 a31 := Tryz.isAgg100
 z31 := Tryz.sizeOf100
 v31 := Tryz.zeroValue100
 t46 := Tryz.underlying152
 a46 := Tryz.isAgg152
 z46 := Tryz.sizeOf152
 v46 := Tryz.zeroValue152
 t51 := Tryz.underlying227
 a51 := Tryz.isAgg227
 z51 := Tryz.sizeOf227
 v51 := Tryz.zeroValue227
 t53 := Tryz.underlying229
 a53 := Tryz.isAgg229
 z53 := Tryz.sizeOf229
 v53 := Tryz.zeroValue229
 t131 := Tryz.underlying224
 a131 := Tryz.isAgg224
 z131 := Tryz.sizeOf224
 v131 := Tryz.zeroValue224
 t182 := Tryz.underlying218
 a182 := Tryz.isAgg218
 z182 := Tryz.sizeOf218
 v182 := Tryz.zeroValue218
 t183 := Tryz.underlying219
 a183 := Tryz.isAgg219
 z183 := Tryz.sizeOf219
 v183 := Tryz.zeroValue219
 t218 := Tryz.underlying241
 a218 := Tryz.isAgg241
 z218 := Tryz.sizeOf241
 v218 := Tryz.zeroValue241
 t222 := Tryz.underlying245
 a222 := Tryz.isAgg245
 z222 := Tryz.sizeOf245
 v222 := Tryz.zeroValue245
 t228 := Tryz.underlying252
 a228 := Tryz.isAgg252
 z228 := Tryz.sizeOf252
 v228 := Tryz.zeroValue252
 t229 := Tryz.underlying253
 a229 := Tryz.isAgg253
 z229 := Tryz.sizeOf253
 v229 := Tryz.zeroValue253 }
end Go.Proofs
namespace Go.Proofs.YtemnhgmgeijkcaaGreat
set_option linter.unusedSimpArgs false
set_option linter.unusedVariables false
set_option linter.unusedSectionVars false
set_option maxRecDepth 4000
open Go.RowKit
theorem Tm.wt_args {a : Tm} {n : Nat} (h : a.wt <= n) : a.args.length <= n /\ ∀ x ∈ a.args, x.wt <= n := by
 have e := Tm.wt_eq a
 refine ⟨by omega, fun x hx => ?_⟩
 have := zbu Tm.wt a.args x hx
 omega
theorem Fm.wt_parts {f : Fm} {n : Nat} (h : f.wt <= n) : f.atom.wt <= n /\ f.parts.length <= n /\ ∀ x ∈ f.parts, x.wt <= n := by
 have e := Fm.wt_eq f
 refine ⟨by omega, by omega, fun x hx => ?_⟩
 have := zbu Fm.wt f.parts x hx
 omega
set_option maxRecDepth 10000 in
theorem zq4 (xs : List Tm) (H : ∀ x ∈ xs, FC Tryz.prog 166 [tmD x] [tmD x]) (hs : xs.length <= 1048576) :
  FC Tryz.prog 231 [.one (tmS xs)] [.one (tmS xs)] := by
 by_cases h0 : xs = []
 ·subst h0
  refine zag Tryz.call231 Tryz.func231 rfl (by kernel_rfl) (zau (by kernel_rfl)) ?_
  simp -implicitDefEqProofs only [go_sem, Tryz.results231]
 ·have hp : ((xs.length : Int) == 0) = false := by
   have : 0 < xs.length := List.length_pos_iff.2 h0
   simp; omega
  refine zag Tryz.call231 Tryz.func231 rfl (by kernel_rfl) (zau (by kernel_rfl)) ?_
  simp -implicitDefEqProofs only [go_sem, Tryz.results231, hp]
  refine zyg (by simp -implicitDefEqProofs only [go_sem]; omega) ?_
  simp -implicitDefEqProofs only [go_sem]
  refine zad (fun k : Nat => hd [(12, vT (tmS xs)), (13, vI xs.length), (3, .one (.ow 352 0)), (14, vI k)] [] [(352, ⟨true, 2, (xs.take k).map tmC ++ List.replicate (xs.length - k) [T.str [], T.sl 2 []], 0, true⟩)]) (fun k => k <= xs.length) (fun k => xs.length - k) 0 (zac ?_) ?_ ?_
  ·simp -implicitDefEqProofs only [go_sem]
   simp
  ·simp
  ·intro k hk
   by_cases hlt : k < xs.length
   ·have hlen : ((xs.take k).map tmC ++ List.replicate (xs.length - k) [T.str [], T.sl 2 []]).length = xs.length := by simp; omega
    have hlt2 : k < k + (xs.length - k) := by omega
    simp -implicitDefEqProofs only [go_sem, List.length_map, zaf, hlt, zab]
    refine callF (H xs[k] (List.getElem_mem hlt)) (by simp -implicitDefEqProofs only [go_sem, zab, hlen, hlt, List.length_append, List.length_map, List.length_take, List.length_replicate, Nat.min_eq_left hk, hlt2]) ?_
    simp -implicitDefEqProofs only [go_sem, zab, hlen, hlt, List.length_append, List.length_map, List.length_take, List.length_replicate, Nat.min_eq_left hk, hlt2]
    refine zdv (by simp -implicitDefEqProofs only [go_sem]; simp) ?_
    simp -implicitDefEqProofs only [go_sem]
    rw [zas (by omega)]
    refine ⟨k + 1, by omega, by omega, zac ?_⟩
    simp -implicitDefEqProofs only [go_sem]
    have hf := zgg ((xs.take k).map tmC) xs.length k [T.str [], T.sl 2 []] (tmC xs[k]) (by simp; omega) hlt (by simp [zab])
    simp only [zab] at hf
    rw [hf, List.take_succ_eq_append_getElem hlt, List.map_append, List.map_singleton]
    simp only [zab]
   ·simp -implicitDefEqProofs only [go_sem, List.length_map, hlt]
    simp [List.take_of_length_le (show xs.length <= k by omega), show xs.length - k = 0 by omega]
theorem zs5 (a : Tm) (H : FC Tryz.prog 231 [.one (tmS a.args)] [.one (tmS a.args)]) : FC Tryz.prog 166 [tmD a] [tmD a] := by
 simp only [tmD, zab a]
 refine zag Tryz.call166 Tryz.func166 rfl (by kernel_rfl) (zau (by kernel_rfl)) ?_
 simp -implicitDefEqProofs only [go_sem, Tryz.results166]
 refine drawn (by kernel_rfl) ?_
 simp -implicitDefEqProofs only [go_sem]
 refine zan (H) (by simp -implicitDefEqProofs only [go_sem]) ?_
 simp -implicitDefEqProofs only [go_sem]
 kernel_rfl
theorem qib (a : Tm) (H : ∀ x ∈ a.args, FC Tryz.prog 155 [tmD x] [tmD x]) (hs : a.args.length <= 1048576) : FC Tryz.prog 155 [tmD a] [tmD a] := by
 simp only [tmD, zab a]
 refine zag Tryz.call155 Tryz.func155 rfl (by kernel_rfl) (zau (by kernel_rfl)) ?_
 simp -implicitDefEqProofs only [go_sem, Tryz.results155]
 refine zad (fun k : Nat => hd [(1, .one (.bx 1 0)), (2, .one (.bx 2 0)), (3, .one (.bx 3 0)), (4, vI k)] [(1, [.t (.str a.name), .t (tmS a.args)]), (2, [.t (.str []), .nl 2]), (3, [.t (.str a.name), .ow 3000 0])] [(3000, ⟨true, 2, (a.args.take k).map tmC, 0, true⟩)]) (fun k => k <= a.args.length) (fun k => a.args.length - k) 0 (zac ?_) ?_ ?_
 ·simp -implicitDefEqProofs only [go_sem]
 ·simp
 ·intro k hk
  by_cases hlt : k < a.args.length
  ·simp -implicitDefEqProofs only [go_sem, hlt]
   refine drawn (by kernel_rfl) ?_
   have hmin : min k a.args.length <= 4294967295 := by omega
   simp -implicitDefEqProofs only [go_sem, zaf, hlt, zab]
   refine zan (H a.args[k] (List.getElem_mem hlt)) (by simp -implicitDefEqProofs only [go_sem, zab]) ?_
   simp -implicitDefEqProofs only [go_sem, zab]
   refine zbp (by simp -implicitDefEqProofs only [go_sem]) ?_
   simp -implicitDefEqProofs only [go_sem]
   refine zpc true (by simp -implicitDefEqProofs only [go_sem, ne_eq, List.length_map, List.length_take, hmin]) ?_
   simp -implicitDefEqProofs only [go_sem, ne_eq, List.length_map, List.length_take, hmin]
   refine ⟨by kernel_rfl, k + 1, hlt, by omega, zac ?_⟩
   simp -implicitDefEqProofs only [go_sem]
   rw [zas (by omega), List.take_succ_eq_append_getElem hlt, List.map_append, List.map_singleton]
   simp only [zab]
   trivial
  ·have ht : a.args.take k = a.args := List.take_of_length_le (by omega)
   simp -implicitDefEqProofs only [go_sem, hlt, ht]
theorem ziq : ∀ a : Tm, a.wt <= 1048576 -> FC Tryz.prog 166 [tmD a] [tmD a] :=
 zbx fun n xs ih hs => by
  obtain ⟨h1, h2⟩ := Tm.wt_args hs
  exact zs5 (.mk n xs) (zq4 xs (fun x hx => ih x hx (h2 x hx)) h1)
theorem zr9 : ∀ a : Tm, a.wt <= 1048576 -> FC Tryz.prog 155 [tmD a] [tmD a] :=
 zbx fun n xs ih hs => by
  obtain ⟨h1, h2⟩ := Tm.wt_args hs
  exact qib (.mk n xs) (fun x hx => ih x hx (h2 x hx)) h1
set_option maxHeartbeats 1000000 in
theorem qhc (a : Fm) (H : ∀ x ∈ a.parts, FC Tryz.prog 152 [fmD x] [fmD x]) (h0 : a.atom.wt <= 1048576) (hs : a.parts.length <= 1048576) : FC Tryz.prog 152 [fmD a] [fmD a] := by
 simp only [fmD, zaa a]
 refine zag Tryz.call152 Tryz.func152 rfl (by kernel_rfl) (zau (by kernel_rfl)) ?_
 simp -implicitDefEqProofs only [go_sem, Tryz.results152]
 refine drawn (by kernel_rfl) ?_
 simp -implicitDefEqProofs only [go_sem]
 refine zan (zr9 a.atom h0) (by simp -implicitDefEqProofs only [go_sem, zab]) ?_
 simp -implicitDefEqProofs only [go_sem, zab]
 refine ⟨by kernel_rfl, ?_⟩
 refine zad (fun k : Nat => hd [(1, .one (.bx 1 0)), (2, .one (.bx 2 0)), (3, .one (.bx 3 0)), (4, vI k)] [(1, [.t (.int .i64 a.op), .t (.str a.atom.name), .t (tmS a.atom.args), .t (.str a.var), .t (fmS a.parts)]), (2, [.t (.int .i64 0), .t (.str []), .nl 2, .t (.str []), .nl 5]), (3, [.t (.int .i64 a.op), .t (.str a.atom.name), .ow 289 0, .t (.str a.var), .ow 3000 0])]
  [(289, ⟨true, 2, a.atom.args.map tmC, 0, true⟩), (3000, ⟨true, 5, (a.parts.take k).map fmC, 0, true⟩)]) (fun k => k <= a.parts.length) (fun k => a.parts.length - k) 0 (zac ?_) ?_ ?_
 ·simp -implicitDefEqProofs only [go_sem]
 ·simp
 ·intro k hk
  by_cases hlt : k < a.parts.length
  ·simp -implicitDefEqProofs only [go_sem, hlt]
   refine drawn (by kernel_rfl) ?_
   have hmin : min k a.parts.length <= 4294967295 := by omega
   simp -implicitDefEqProofs only [go_sem, zaf, hlt, zaa]
   refine zan (H a.parts[k] (List.getElem_mem hlt)) (by simp -implicitDefEqProofs only [go_sem, zaa]) ?_
   simp -implicitDefEqProofs only [go_sem, zaa]
   refine zbp (by simp -implicitDefEqProofs only [go_sem]) ?_
   simp -implicitDefEqProofs only [go_sem]
   refine zpc true (by simp -implicitDefEqProofs only [go_sem, ne_eq, List.length_map, List.length_take, hmin]) ?_
   simp -implicitDefEqProofs only [go_sem, ne_eq, List.length_map, List.length_take, hmin]
   refine ⟨by kernel_rfl, k + 1, hlt, by omega, zac ?_⟩
   simp -implicitDefEqProofs only [go_sem]
   rw [zas (by omega), List.take_succ_eq_append_getElem hlt, List.map_append, List.map_singleton]
   simp only [zaa]
   trivial
  ·have ht : a.parts.take k = a.parts := List.take_of_length_le (by omega)
   simp -implicitDefEqProofs only [go_sem, hlt, ht]
theorem zr5 : ∀ a : Fm, a.wt <= 1048576 -> FC Tryz.prog 152 [fmD a] [fmD a] :=
 zcb fun o t v ps ih hs => by
  obtain ⟨h1, h2, h3⟩ := Fm.wt_parts hs
  exact qhc (.mk o t v ps) (fun x hx => ih x hx (h3 x hx)) h1 h2
set_option maxHeartbeats 1000000 in
theorem zsr (a : Fm) (g : FuncId) (φ : Fm -> Fm) (H : ∀ x ∈ a.parts, FC Tryz.prog g [fmD x] [fmD (φ x)]) (h0 : a.atom.wt <= 1048576) (hs : a.parts.length <= 1048576) : FC Tryz.prog 127 [fmD a, .one (.fn g [])] [fmD (.mk a.op a.atom a.var (a.parts.map φ))] := by
 simp only [fmD, zaa a, zdl]
 refine zag Tryz.call127 Tryz.func127 rfl (by kernel_rfl) (zau (by kernel_rfl)) ?_
 simp -implicitDefEqProofs only [go_sem, Tryz.results127]
 refine drawn (by kernel_rfl) ?_
 simp -implicitDefEqProofs only [go_sem]
 refine zan (ziq a.atom h0) (by simp -implicitDefEqProofs only [go_sem, zab]) ?_
 simp -implicitDefEqProofs only [go_sem, zab]
 refine ⟨by kernel_rfl, ?_⟩
 refine zad (fun k : Nat => hd [(1, .one (.t (.fn g []))), (4, .one (.bx 4 0)), (5, .one (.bx 5 0)), (17, vT (fmS a.parts)), (18, vI a.parts.length), (19, vI k)] [(4, [.t (.int .i64 0), .t (.str []), .nl 2, .t (.str []), .nl 5]), (5, [.t (.int .i64 a.op), .t (.str a.atom.name), .ow 385 0, .t (.str a.var), .ow 3000 0])]
  [(385, ⟨true, 2, a.atom.args.map tmC, 0, true⟩), (3000, ⟨true, 5, (a.parts.take k).map fun x => fmC (φ x), 0, true⟩)]) (fun k => k <= a.parts.length) (fun k => a.parts.length - k) 0 (zac ?_) ?_ ?_
 ·simp -implicitDefEqProofs only [go_sem]
 ·simp
 ·intro k hk
  by_cases hlt : k < a.parts.length
  ·have hmin : min k a.parts.length <= 4294967295 := by omega
   simp -implicitDefEqProofs only [go_sem, zaf, hlt, zaa a.parts[k]]
   refine drawn (by kernel_rfl) ?_
   simp -implicitDefEqProofs only [go_sem]
   refine zan (H a.parts[k] (List.getElem_mem hlt)) (by simp -implicitDefEqProofs only [go_sem, zaa]) ?_
   simp -implicitDefEqProofs only [go_sem, zaa]
   refine zbp (by simp -implicitDefEqProofs only [go_sem]) ?_
   simp -implicitDefEqProofs only [go_sem]
   refine zpc true (by simp -implicitDefEqProofs only [go_sem, ne_eq, List.length_map, List.length_take, hmin]) ?_
   simp -implicitDefEqProofs only [go_sem, ne_eq, List.length_map, List.length_take, hmin]
   refine ⟨by kernel_rfl, k + 1, hlt, by omega, zac ?_⟩
   simp -implicitDefEqProofs only [go_sem]
   rw [zas (by omega), List.take_succ_eq_append_getElem hlt, List.map_append, List.map_singleton]
   simp only [zaa]
   trivial
  ·have ht : a.parts.take k = a.parts := List.take_of_length_le (by omega)
   simp -implicitDefEqProofs only [go_sem, hlt, ht]
   rfl
set_option maxRecDepth 10000 in
theorem zih : ∀ a : Fm, a.wt <= 1048576 -> FC Tryz.prog 162 [fmD a] [fmD a] :=
 zcb fun o t v ps ih hs => by
  obtain ⟨h1, h2, h3⟩ := Fm.wt_parts hs
  have H := zsr (.mk o t v ps) 162 (fun x => x) (fun x hx => ih x hx (h3 x hx)) h1 h2
  simp only [Fm.op, Fm.atom, Fm.var, Fm.parts, List.map_id'] at H
  simp only [fmD, zdl] at H ⊢
  refine zag Tryz.call162 Tryz.func162 rfl (by kernel_rfl) (zau (by kernel_rfl)) ?_
  simp -implicitDefEqProofs only [go_sem, Tryz.results162]
  refine callF (H) (by simp -implicitDefEqProofs only [go_sem]) ?_
  simp -implicitDefEqProofs only [go_sem]
  trace_state
end Go.Proofs.YtemnhgmgeijkcaaGreat
namespace Go.Proofs.YtemnhgmgeijkcaaGreat
set_option linter.unusedSimpArgs false
set_option linter.unusedVariables false
set_option linter.unusedSectionVars false
set_option maxRecDepth 4000
open Go.RowKit
theorem zqo (ss : List Str) (hl : ss.length <= 1099511627776) : IC Tryz.prog 118 [] (.one (zcm ss)) [] (.one (zcm (zjq ss))) [] :=
 qmy Tryz.call118 (fun blk off cap ss w h1 h2 h3 => Any.slices_Sort_string Tryz.lays190 blk off cap ss w h1 h2 h3) (fun p cap w => Any.slices_Sort_string_none Tryz.lays190 p cap w) ss (by omega)
theorem qmn {P : Program} {t : TypeId} {n b : Nat} {z : List C} (h1 : zbq P t = some n) (h2 : zd0 P t = some b) (h3 : zdh P t = some z) (h4 : z.length = n) : ∃ i0 zv, P.info? t = some i0 /\ i0.zero = some zv /\ zv.cells.size = n /\ i0.size = n /\ i0.bytes = b := by
 unfold zbq at h1
 unfold zd0 at h2
 unfold zdh at h3
 cases hi : P.info? t with
 | none => rw [hi] at h1; cases h1
 | some i =>
  rw [hi] at h1 h2 h3
  simp only [Option.map_some, Option.some.injEq] at h1 h2
  simp only [Option.bind_some] at h3
  cases hz : i.zero with
  | none => rw [hz] at h3; cases h3
  | some zv =>
   rw [hz] at h3
   simp only [Option.map_some, Option.some.injEq] at h3
   refine ⟨i, zv, rfl, hz, ?_, h1, h2⟩
   rw [<- h4, <- h3]; simp
set_option maxHeartbeats 1000000 in
theorem zxn : CloneOf Tryz.prog 120 1 16 := by
 have t22 := Tryz.underlying100
 have q22 : ∀ (w : World) (a : Option Addr) (n c n' c' : Nat), (binOp .eql 100 (.slice a n c) (.slice none n' c')).run Tryz.prog w = .ok (.bool a.isNone) w := fun w a n c n' c' => Lib.run_eql_slice_nil w _ _ a n c n' c' t22
 have u22 : ∀ w, Sem.run Tryz.prog (underlying 100) w = .ok (TypeDesc.slice 9) w := run_underlying t22
 refine ⟨Tryz.call120, fun ad n c news w hl hn hbig hc h1 => ?_, fun n c w => ?_⟩
 ·have A : Aside (∀ j u, news[j]? = some u -> w.cell? (ad.add j) = some u) := hc
  clear hc
  obtain ⟨i0, z, hi, hz0, hzs, hz1, hz2⟩ := qmn (P := Tryz.prog) (t := 9) (n := 1) (b := 16) (z := [.t (.str [])]) (by kernel_rfl) (by kernel_rfl) (by kernel_rfl) rfl
  go_enter Tryz.func120, Tryz.ntmps120
  go_wp2_with (at_builtin; refine wpList_append_own _ rfl _ _ 100 rfl w.heap.size 9 i0 z 1 16 t22 hi hz0 hz1 hz2 hzs (by decide) _ _ _ rfl (World.ownsRow_made w #[] 0 (Nat.le_refl _) (Nat.zero_le _) (by simp)) ad n c news rfl ?qc1 ?qc2 ?qc3 ?qc4 ?qc5 ?qc6 ?_)
  case qc1 => exact hl
  case qc2 =>
   intro j u hj
   exact Lib.cell?_alloc_some _ (A.out j u hj)
  case qc3 => exact h1
  case qc4 => rw [Nat.zero_add]; exact hn
  case qc5 => rw [Nat.zero_add]; exact hbig
  case qc6 => simp
  intro v' w1 hown hgrow hnil
  go_wp2
  go_ret
  refine ⟨_, v', rfl, by simpa using hown, hnil, ?_⟩
  exact ((Below.refl _ w).alloc (Nat.le_refl _) _).grown hgrow (by simp) (by intro k hk; simp [Value.ownBlock] at hk; omega)
 ·go_enter Tryz.func120, Tryz.ntmps120
  go_wp2
  go_ret
  exact ⟨rfl, rfl⟩
theorem zx1 (ss : List Str) : ∀ c ∈ (ss.map fun s => [T.str s]).flatten, c.flat = true := fun c hc => by
 rw [zk5] at hc
 obtain ⟨s, _, rfl⟩ := List.mem_map.1 hc
 rfl
theorem zxo (ss : List Str) (hs : ss.length <= 1099511627776) : FC Tryz.prog 120 [.one (zcm ss)] [.one (zcm ss)] :=
 qhx zxn _ (by simp; omega) (zx1 ss)
abbrev zf0 (xs : List Int) : T := .sl 1 (xs.map fun s => [.int .i64 s])
theorem zun (xs : List Str) (s : Str) : FC Tryz.prog 160 [.one (zcm xs), sD s] [bD (xs.contains s)] := by
 refine zc7 (fun hw => ?_) Tryz.call160
 have hl : xs.length <= 9223372036854775807 := by simpa [zfj, wfT] using hw.1.1
 refine zag Tryz.call160 Tryz.func160 rfl (by kernel_rfl) (zau (by kernel_rfl)) ?_
 simp -implicitDefEqProofs only [go_sem, Tryz.results160]
 refine zad (fun k : Nat => hd [(0, vT (zcm xs)), (1, vT (.str s)), (5, vI k)] [] []) (fun k => k <= xs.length /\ s ∉ xs.take k) (fun k => xs.length - k) 0 (zac ?_) ?_ ?_
 ·simp -implicitDefEqProofs only [go_sem]
 ·simp
 ·intro k ⟨hk, hr⟩
  by_cases hlt : k < xs.length
  ·simp -implicitDefEqProofs only [go_sem, zaf, hlt]
   refine ⟨fun h => ?_, fun h => ?_⟩
   ·have e : xs[k] = s := by simpa using h
    rw [List.contains_iff_mem.2 (e ▸ List.getElem_mem hlt)]
   ·have e : xs[k] ≠ s := by simpa using h
    exact ⟨k + 1, ⟨hlt, zhn hlt hr e⟩, by omega, zac (by simp -implicitDefEqProofs only [go_sem]; rw [zas (by omega)])⟩
  ·simp -implicitDefEqProofs only [go_sem, hlt]
   rw [List.take_of_length_le (by omega)] at hr
   simpa using hr
theorem zda {α : Type} {p : α -> Bool} : ∀ {l : List α} {k : Nat}, k <= l.length -> (∀ x ∈ l.take k, p x = true) -> (∀ h : k < l.length, p l[k] = false) -> l.takeWhile p = l.take k /\ l.dropWhile p = l.drop k
 | [], k, hk, _, _ => by simp
 | a :: l, 0, hk, _, h2 => by have := h2 (by simp); simp only [List.getElem_cons_zero] at this; simp [this]
 | a :: l, k + 1, hk, h1, h2 => by
  have ha := h1 a (by simp)
  obtain ⟨e1, e2⟩ := zda (l := l) (k := k) (by simpa using hk) (fun x hx => h1 x (by simp [hx])) (fun h => h2 (by simpa using h))
  simp [ha, e1, e2]
theorem qcf {l : List Str} {s : Str} {k : Nat} (hk : k <= l.length) (h1 : ∀ x ∈ l.take k, Op.bytesLess x s = true) (h2 : ∀ h : k < l.length, Op.bytesLess l[k] s = false) : zu1 l s = if (l.drop k).head? = some s then l else l.take k ++ [s] ++ l.drop k := by
 obtain ⟨e1, e2⟩ := zda (p := fun x => Op.bytesLess x s) hk h1 h2
 unfold zu1
 rw [e1, e2]
theorem qi3 {rows : List (List T)} (h : ∀ r ∈ rows, r.all T.flat = true) : flR rows = true := by
 induction rows with
 | nil => rfl
 | cons r rs ih => unfold flR; rw [h r (by simp), ih fun r hr => h r (by simp [hr])]; rfl
theorem zc5 (l : List Str) : flR (l.map fun s => [T.str s]) = true := qi3 fun r hr => by obtain ⟨s, _, rfl⟩ := List.mem_map.1 hr; rfl
theorem zcg (k : Nat) (l : List Str) : flR ((l.map fun s => [T.str s]).take k) = true := by rw [<- List.map_take]; exact zc5 _
theorem zce (k : Nat) (l : List Str) : flR ((l.map fun s => [T.str s]).drop k) = true := by rw [<- List.map_drop]; exact zc5 _
theorem zfu {α β : Type} (f : α -> β) (l : List α) : (l.map f).take l.length = l.map f := List.take_of_length_le (by simp)
theorem qa4 (l : List Str) (s : Str) (hl : l.length <= 2147483648) : GC Tryz.prog 274 [(true, .one (zcm l)), (false, sD s)] [.one (zcm (zu1 l s))] := by
 refine qhh Tryz.call274 Tryz.func274 rfl (by kernel_rfl) (by simp only [List.length_cons, List.length_nil, Tryz.ntmps274]; omega) (by simp [zb6, T.isPin]) ?_
 simp -implicitDefEqProofs only [go_sem, Tryz.results274]
 refine zad (fun k : Nat => hd [(0, .one (.ow 0 0)), (1, vT (.str s)), (5, vI k)] [] [(0, ⟨true, 1, l.map fun s => [.str s], 0, true⟩)]) (fun k => k <= l.length /\ ∀ x ∈ l.take k, Op.bytesLess x s = true) (fun k => l.length - k) 0 (zac ?_) ?_ ?_
 ·simp -implicitDefEqProofs only [go_sem]
 ·simp
 ·intro k ⟨hk, hr⟩
  have hm1 : min k l.length <= 4294967296 := by omega
  have hm2 : min k l.length <= 4294967295 := by omega
  have hm3 : min k l.length + 1 + (l.length - k) <= 4294967296 := by omega
  by_cases hlt : k < l.length
  ·have hnx : ∀ {b}, Op.bytesLess l[k] s = b -> b = true -> ∀ x ∈ l.take (k + 1), Op.bytesLess x s = true := fun {b} e hb x hx => by
    rw [List.take_succ_eq_append_getElem hlt] at hx
    rcases List.mem_append.1 hx with hx | hx
    ·exact hr x hx
    ·rw [List.mem_singleton.1 hx, e, hb]
   simp -implicitDefEqProofs only [go_sem, zaf, hlt]
   refine ⟨fun h => ⟨k + 1, ⟨hlt, hnx rfl h⟩, by omega, zac (by simp -implicitDefEqProofs only [go_sem]; rw [zas (by omega)])⟩, fun h => ?_⟩
   have hp := qcf hk hr (fun _ => h)
   have hh : (l.drop k).head? = some l[k] := by rw [List.head?_drop, List.getElem?_eq_getElem hlt]
   refine ⟨fun h2 => ?_, fun h2 => ?_⟩
   ·rw [hp, if_pos (by rw [hh]; simpa using h2)]
   ·rw [if_neg (by rw [hh]; simpa using h2)] at hp
    refine frzD 0 ?_
    simp -implicitDefEqProofs only [go_sem]
    refine drawn (by kernel_rfl) ?_
    simp -implicitDefEqProofs only [go_sem, hk]
    refine zbp (by simp -implicitDefEqProofs only [go_sem, hk]) ?_
    simp -implicitDefEqProofs only [go_sem, hk]
    refine zpc true (by simp -implicitDefEqProofs only [go_sem, hk, ne_eq, Nat.zero_add, hm1, hm2, hm3, zcg, zce, zfu, List.length_drop, List.length_take, List.length_append, List.length_map]) ?_
    simp -implicitDefEqProofs only [go_sem, hk, ne_eq, Nat.zero_add, hm1, hm2, hm3, zcg, zce, zfu, List.length_drop, List.length_take, List.length_append, List.length_map]
    refine zbp (by simp -implicitDefEqProofs only [go_sem, hk]) ?_
    simp -implicitDefEqProofs only [go_sem, hk]
    refine zpc true (by simp -implicitDefEqProofs only [go_sem, hk, ne_eq, Nat.zero_add, hm1, hm2, hm3, zcg, zce, zfu, List.length_drop, List.length_take, List.length_append, List.length_map]) ?_
    simp -implicitDefEqProofs only [go_sem, hk, ne_eq, Nat.zero_add, hm1, hm2, hm3, zcg, zce, zfu, List.length_drop, List.length_take, List.length_append, List.length_map]
    refine zpc true (by simp -implicitDefEqProofs only [go_sem, hk, ne_eq, Nat.zero_add, hm1, hm2, hm3, zcg, zce, zfu, List.length_drop, List.length_take, List.length_append, List.length_map]) ?_
    simp -implicitDefEqProofs only [go_sem, hk, ne_eq, Nat.zero_add, hm1, hm2, hm3, zcg, zce, zfu, List.length_drop, List.length_take, List.length_append, List.length_map]
    refine ⟨by kernel_rfl, ?_⟩
    rw [hp]; simp
  ·simp -implicitDefEqProofs only [go_sem, hlt]
   have hp := qcf hk hr (fun h => absurd h hlt)
   rw [if_neg (by rw [List.drop_of_length_le (by omega)]; simp)] at hp
   refine frzD 0 ?_
   simp -implicitDefEqProofs only [go_sem]
   refine drawn (by kernel_rfl) ?_
   simp -implicitDefEqProofs only [go_sem, hk]
   refine zbp (by simp -implicitDefEqProofs only [go_sem, hk]) ?_
   simp -implicitDefEqProofs only [go_sem, hk]
   refine zpc true (by simp -implicitDefEqProofs only [go_sem, hk, ne_eq, Nat.zero_add, hm1, hm2, hm3, zcg, zce, zfu, List.length_drop, List.length_take, List.length_append, List.length_map]) ?_
   simp -implicitDefEqProofs only [go_sem, hk, ne_eq, Nat.zero_add, hm1, hm2, hm3, zcg, zce, zfu, List.length_drop, List.length_take, List.length_append, List.length_map]
   refine zbp (by simp -implicitDefEqProofs only [go_sem, hk]) ?_
   simp -implicitDefEqProofs only [go_sem, hk]
   refine zpc true (by simp -implicitDefEqProofs only [go_sem, hk, ne_eq, Nat.zero_add, hm1, hm2, hm3, zcg, zce, zfu, List.length_drop, List.length_take, List.length_append, List.length_map]) ?_
   simp -implicitDefEqProofs only [go_sem, hk, ne_eq, Nat.zero_add, hm1, hm2, hm3, zcg, zce, zfu, List.length_drop, List.length_take, List.length_append, List.length_map]
   refine zpc true (by simp -implicitDefEqProofs only [go_sem, hk, ne_eq, Nat.zero_add, hm1, hm2, hm3, zcg, zce, zfu, List.length_drop, List.length_take, List.length_append, List.length_map]) ?_
   simp -implicitDefEqProofs only [go_sem, hk, ne_eq, Nat.zero_add, hm1, hm2, hm3, zcg, zce, zfu, List.length_drop, List.length_take, List.length_append, List.length_map]
   refine ⟨by kernel_rfl, ?_⟩
   rw [hp]; simp
end Go.Proofs.YtemnhgmgeijkcaaGreat
namespace Go.Proofs.YtemnhgmgeijkcaaGreat
set_option linter.unusedSimpArgs false
set_option linter.unusedVariables false
set_option linter.unusedSectionVars false
set_option maxRecDepth 4000
open Go.RowKit
theorem qmc {b : UInt8} (h1 : decide ((b.toNat : Int) < 65) = false) (h2 : decide ((90 : Int) < b.toNat) = false) : zlx b = true := by
 simp [zlx] at *; omega
theorem qg6 {b : UInt8} (h1 : decide ((b.toNat : Int) < 65) = true) : zlx b = false := by
 simp [zlx] at *; omega
theorem qg8 {b : UInt8} (h2 : decide ((90 : Int) < b.toNat) = true) : zlx b = false := by
 simp [zlx] at *; omega
theorem qhm {b : UInt8} (h1 : decide ((b.toNat : Int) < 97) = false) (h2 : decide ((122 : Int) < b.toNat) = false) : zgb b = true := by
 simp [zgb] at *; omega
theorem qdc {b : UInt8} (h1 : decide ((b.toNat : Int) < 97) = true) : zgb b = false := by
 simp [zgb] at *; omega
theorem zzl {b : UInt8} (h2 : decide ((122 : Int) < b.toNat) = true) : zgb b = false := by
 simp [zgb] at *; omega
theorem zwu {s : Str} (h : 0 < s.length) : zsa s = (zlx (s.getD 0 0) && (s.drop 1).all znf) := by
 cases s
 ·exact absurd h (by simp)
 ·rfl
theorem zpm {s : Str} (h : 0 < s.length) : zkj s = (zgb (s.getD 0 0) && (s.drop 1).all znm) := by
 cases s
 ·exact absurd h (by simp)
 ·rfl
theorem zi2 (s : Str) : FC Tryz.prog 225 [sD s] [bD (zbc s)] := by
 refine zc7 (fun hw => ?_) Tryz.call225
 have hl : s.length <= 9223372036854775807 := by simpa [zfj, wfT] using hw.1
 refine zag Tryz.call225 Tryz.func225 rfl (by kernel_rfl) (zau (by kernel_rfl)) ?_
 simp -implicitDefEqProofs only [go_sem, Tryz.results225]
 refine callF (zfv s.length 1 4) (by simp -implicitDefEqProofs only [go_sem]) ?_
 simp -implicitDefEqProofs only [go_sem]
 by_cases hb : inB s.length 1 4 = true
 ·have hp : 0 < s.length := by simp [inB] at hb; omega
  have hp' : (0 : Int) < s.length := by omega
  have he := zwu hp
  refine ⟨fun h => ⟨hp', fun h1 => ⟨hp', fun h2 => ?_, fun h2 => ?_⟩, fun h1 => ?_⟩, fun h => by simp [hb] at h⟩
  ·rw [zbc, he, qg8 h2]; rfl
  ·rw [qmc h1 h2, Bool.true_and] at he
   refine zad (fun k : Nat => hd [(0, vT (.str s)), (3, vI k)] [] []) (fun k => k <= s.length /\ zsa s = (s.drop k).all znf) (fun k => s.length - k) 1 (zac ?_) ?_ ?_
   ·simp -implicitDefEqProofs only [go_sem]
   ·exact ⟨hp, he⟩
   ·intro k ⟨hk, hr⟩
    by_cases hlt : k < s.length
    ·have hg : s.getD k 0 = s[k] := by simp [List.getD, hlt]
     rw [List.drop_eq_getElem_cons hlt, List.all_cons] at hr
     simp -implicitDefEqProofs only [go_sem, hlt]
     simp only [hg]
     refine callF (zq2 s[k]) (by simp -implicitDefEqProofs only [go_sem]) ?_
     simp -implicitDefEqProofs only [go_sem]
     refine ⟨fun h => ?_, fun h => ⟨k + 1, ⟨hlt, ?_⟩, by omega, zac (by simp -implicitDefEqProofs only [go_sem]; rw [zas (by omega)])⟩⟩
     ·have : znf s[k] = false := by simpa using h
      rw [zbc, hr, this]; rfl
     ·have : znf s[k] = true := by simpa using h
      rw [hr, this]; rfl
    ·simp -implicitDefEqProofs only [go_sem, hlt]
     rw [zbc, hr, List.drop_of_length_le (by omega), hb]; rfl
  ·rw [zbc, he, qg6 h1]; rfl
 ·have hb' : inB s.length 1 4 = false := by simpa using hb
  refine ⟨fun h => by simp [hb'] at h, fun h => ?_⟩
  rw [zbc, hb', Bool.and_false]
set_option maxHeartbeats 1000000 in
theorem zml (s : Str) : FC Tryz.prog 240 [sD s] [bD (zc4 s)] := by
 refine zc7 (fun hw => ?_) Tryz.call240
 have hl : s.length <= 9223372036854775807 := by simpa [zfj, wfT] using hw.1
 refine zag Tryz.call240 Tryz.func240 rfl (by kernel_rfl) (zau (by kernel_rfl)) ?_
 simp -implicitDefEqProofs only [go_sem, Tryz.results240]
 refine callF (zfv s.length 1 6) (by simp -implicitDefEqProofs only [go_sem]) ?_
 simp -implicitDefEqProofs only [go_sem]
 by_cases hb : inB s.length 1 6 = true
 ·have hp : 0 < s.length := by simp [inB] at hb; omega
  have hp' : (0 : Int) < s.length := by omega
  have he := zpm hp
  refine ⟨fun h => ⟨hp', fun h1 => ⟨hp', fun h2 => ?_, fun h2 => ?_⟩, fun h1 => ?_⟩, fun h => by simp [hb] at h⟩
  ·rw [zc4, he, zzl h2]; rfl
  ·rw [qhm h1 h2, Bool.true_and] at he
   have leaf : ∀ l, l ∈ zt0 -> (s == l) = true -> T.bool false = T.bool (zc4 s) := fun l hl e => by
    have : zt0.contains s = true := by rw [List.contains_iff_mem, beq_iff_eq.1 e]; exact hl
    rw [zc4, this, Bool.not_true, Bool.and_false]
   refine ⟨fun e => ⟨fun _ => leaf _ (by simp [zt0]) e, fun e' => absurd (e.symm.trans e') (by simp)⟩, fun n1 => ?_⟩
   refine ⟨fun e => ⟨fun _ => leaf _ (by simp [zt0]) e, fun e' => absurd (e.symm.trans e') (by simp)⟩, fun n2 => ?_⟩
   refine ⟨fun e => ⟨fun _ => leaf _ (by simp [zt0]) e, fun e' => absurd (e.symm.trans e') (by simp)⟩, fun n3 => ?_⟩
   refine ⟨fun e => ⟨fun _ => leaf _ (by simp [zt0]) e, fun e' => absurd (e.symm.trans e') (by simp)⟩, fun n4 => ?_⟩
   refine ⟨fun e => ⟨fun _ => leaf _ (by simp [zt0]) e, fun e' => absurd (e.symm.trans e') (by simp)⟩, fun n5 => ?_⟩
   refine ⟨fun e => ⟨fun _ => leaf _ (by simp [zt0]) e, fun e' => absurd (e.symm.trans e') (by simp)⟩, fun n6 => ?_⟩
   refine ⟨fun e => ⟨fun _ => leaf _ (by simp [zt0]) e, fun e' => absurd (e.symm.trans e') (by simp)⟩, fun n7 => ?_⟩
   refine ⟨fun e => leaf _ (by simp [zt0]) e, fun n8 => ?_⟩
   have hnc : zt0.contains s = false := by
    simp only [beq_eq_false_iff_ne, ne_eq] at n1 n2 n3 n4 n5 n6 n7 n8
    rw [Bool.eq_false_iff, ne_eq, List.contains_iff_mem]
    simp only [zt0, List.mem_cons, List.not_mem_nil, or_false, not_or]
    exact ⟨n1, n2, n3, n4, n5, n6, n7, n8⟩
   refine zad (fun k : Nat => hd [(0, vT (.str s)), (3, vI k)] [] []) (fun k => k <= s.length /\ zkj s = (s.drop k).all znm) (fun k => s.length - k) 1 (zac ?_) ?_ ?_
   ·simp -implicitDefEqProofs only [go_sem]
   ·exact ⟨hp, he⟩
   ·intro k ⟨hk, hr⟩
    by_cases hlt : k < s.length
    ·have hg : s.getD k 0 = s[k] := by simp [List.getD, hlt]
     rw [List.drop_eq_getElem_cons hlt, List.all_cons] at hr
     simp -implicitDefEqProofs only [go_sem, hlt]
     simp only [hg]
     refine callF (zq2 s[k]) (by simp -implicitDefEqProofs only [go_sem]) ?_
     simp -implicitDefEqProofs only [go_sem]
     simp only [hg]
     refine ⟨fun h => ⟨hlt, fun h' => ?_, fun h' => ⟨k + 1, ⟨hlt, ?_⟩, by omega, zac (by simp -implicitDefEqProofs only [go_sem]; rw [zas (by omega)])⟩⟩, fun h => ⟨k + 1, ⟨hlt, ?_⟩, by omega, zac (by simp -implicitDefEqProofs only [go_sem]; rw [zas (by omega)])⟩⟩
     ·have : znm s[k] = false := by
       simp [znm] at h ⊢
       refine ⟨h, fun e => ?_⟩
       rw [e] at h'
       simp at h'
      rw [zc4, hr, this]; rfl
     ·have : znm s[k] = true := by
       have := qj7 (b := s[k]) (n := 95) (by omega)
       simp [znm] at h' ⊢
       right
       simpa [h'] using this
      rw [hr, this]; rfl
     ·have : znm s[k] = true := by simp [znm]; simp at h; simp [h]
      rw [hr, this]; rfl
    ·simp -implicitDefEqProofs only [go_sem, hlt]
     rw [zc4, hr, List.drop_of_length_le (by omega), hb, hnc]; rfl
  ·rw [zc4, he, qdc h1]; rfl
 ·have hb' : inB s.length 1 6 = false := by simpa using hb
  refine ⟨fun h => by simp [hb'] at h, fun h => ?_⟩
  rw [zc4, hb', Bool.and_false]; rfl
end Go.Proofs.YtemnhgmgeijkcaaGreat
namespace Go.Proofs.YtemnhgmgeijkcaaGreat
set_option linter.unusedSimpArgs false
set_option linter.unusedVariables false
set_option linter.unusedSectionVars false
set_option maxRecDepth 4000
open Go.RowKit
def Tm.nodes : Tm -> Nat := Tm.fold fun _ _ rs => 1 + rs.sum
theorem Tm.nodes_eq (a : Tm) : a.nodes = 1 + (a.args.map Tm.nodes).sum := Tm.fold_eq _ a
def Tm.depth : Tm -> Nat := Tm.fold fun _ _ rs => rs.foldl max 0 + 1
theorem Tm.depth_eq (a : Tm) : a.depth = (a.args.map Tm.depth).foldl max 0 + 1 := Tm.fold_eq _ a
theorem zfh : ∀ a : Tm, a.nodes <= 1 + a.wt := by
 refine zbx fun n xs ih => ?_
 rw [Tm.nodes_eq, Tm.wt_eq]
 show 1 + (xs.map Tm.nodes).sum <= 1 + (n.length + xs.length + (xs.map Tm.wt).sum)
 have : (xs.map Tm.nodes).sum <= xs.length + (xs.map Tm.wt).sum := by
  clear n
  induction xs with
  | nil => simp
  | cons x xs ih2 =>
   have h1 := ih x (by simp)
   have h2 := ih2 fun y hy => ih y (by simp [hy])
   simp only [List.map_cons, List.sum_cons, List.length_cons]
   omega
 omega
theorem zjd {B : Nat} : ∀ (xs : List Nat) (m : Nat), m <= B -> (∀ x ∈ xs, x <= B) -> xs.foldl max m <= B
 | [], m, h, _ => h
 | x :: xs, m, h, h2 => zjd xs (max m x) (by have := h2 x (by simp); omega) fun y hy => h2 y (by simp [hy])
theorem zk8 : ∀ a : Tm, a.depth <= a.nodes := by
 refine zbx fun n xs ih => ?_
 rw [Tm.nodes_eq, Tm.depth_eq]
 show (xs.map Tm.depth).foldl max 0 + 1 <= 1 + (xs.map Tm.nodes).sum
 have := zjd (B := (xs.map Tm.nodes).sum) (xs.map Tm.depth) 0 (by omega) fun d hd => by
  obtain ⟨x, hx, rfl⟩ := List.mem_map.1 hd
  exact Nat.le_trans (ih x hx) (zbu Tm.nodes xs x hx)
 omega
def szL (lim : Int) : Int -> List Int -> Int
 | n, [] => n
 | n, r :: rs => if n > lim then n else szL lim (n + r) rs
def zf8 : Tm -> Int := Tm.fold fun _ _ rs => szL 30 1 rs
theorem zvi (a : Tm) : zf8 a = szL 30 1 (a.args.map zf8) := Tm.fold_eq _ a
theorem zkc {α : Type} (f : α -> Int) (g : α -> Nat) (lim : Int) : ∀ (xs : List α) (n : Int), 0 <= n -> (∀ x ∈ xs, 1 <= f x /\ f x <= g x /\ (f x <= lim -> f x = g x)) -> szL lim n (xs.map f) <= n + (xs.map g).sum /\ n <= szL lim n (xs.map f) /\ (szL lim n (xs.map f) <= lim -> szL lim n (xs.map f) = n + (xs.map g).sum)
 | [], n, _, _ => by simp [szL]
 | x :: xs, n, hn, h => by
  obtain ⟨h1, h2, h3⟩ := h x (by simp)
  obtain ⟨k1, k2, k3⟩ := zkc f g lim xs (n + f x) (by omega) fun y hy => h y (by simp [hy])
  simp only [List.map_cons, szL, List.sum_cons]
  split
  ·refine ⟨by omega, by omega, fun hh => by omega⟩
  ·refine ⟨by omega, by omega, fun hh => ?_⟩
   have := k3 hh
   rw [this]
   have : f x = g x := h3 (by omega)
   omega
theorem zmy : ∀ a : Tm, 1 <= zf8 a /\ zf8 a <= a.nodes /\ (zf8 a <= 30 -> zf8 a = a.nodes) := by
 refine zbx fun n xs ih => ?_
 rw [zvi, Tm.nodes_eq]
 show 1 <= szL 30 1 (xs.map zf8) /\ szL 30 1 (xs.map zf8) <= ((1 + (xs.map Tm.nodes).sum : Nat) : Int) /\ _
 obtain ⟨k1, k2, k3⟩ := zkc zf8 Tm.nodes 30 xs 1 (by omega) ih
 refine ⟨k2, by omega, fun h => ?_⟩
 have := k3 h
 show szL 30 1 (xs.map zf8) = _
 rw [this]; show _ = ((1 + (xs.map Tm.nodes).sum : Nat) : Int); omega
theorem qgs (a : Tm) : decide (zf8 a <= 30) = decide (a.nodes <= 30) := by
 obtain ⟨h1, h2, h3⟩ := zmy a
 rw [decide_eq_decide]
 exact ⟨fun h => by have := h3 h; omega, fun h => by omega⟩
def qby {α : Type} (f : α -> Nat) (xs : List α) (k : Nat) : Nat := ((xs.drop k).map f).sum
theorem zfc {α : Type} (f : α -> Nat) (xs : List α) : qby f xs 0 = (xs.map f).sum := by simp [qby]
theorem ziw {α : Type} (f : α -> Nat) (xs : List α) (k : Nat) (h : k < xs.length) : qby f xs k = f xs[k] + qby f xs (k + 1) := by
 unfold qby
 rw [List.drop_eq_getElem_cons h, List.map_cons, List.sum_cons]
set_option maxHeartbeats 400000 in
theorem qmi (a : Tm) (hs : a.wt <= 1099511627776) (H : ∀ x ∈ a.args, FC Tryz.prog 259 [tmD x] [iD (zf8 x)]) : FC Tryz.prog 259 [tmD a] [iD (zf8 a)] := by
 refine zc7 (fun hw => ?_) Tryz.call259
 have hl : a.args.length <= 9223372036854775807 := by rw [Tm.wt_eq] at hs; omega
 have hn := zfh a
 have hN := a.nodes_eq
 simp only [tmD, zab]
 refine zag Tryz.call259 Tryz.func259 rfl (by kernel_rfl) (zau (by kernel_rfl)) ?_
 simp -implicitDefEqProofs only [go_sem, Tryz.results259]
 refine zad (fun p : Nat × Int => hd [(3, vI p.2), (7, vT (tmS a.args)), (8, vI a.args.length), (9, vI p.1)] [] []) (fun p => p.1 <= a.args.length /\ zf8 a = szL 30 p.2 ((a.args.drop p.1).map zf8) /\ 1 <= p.2 /\ p.2 + qby Tm.nodes a.args p.1 <= a.nodes) (fun p => a.args.length - p.1) (0, 1) (zac ?_) ?_ ?_
 ·simp -implicitDefEqProofs only [go_sem]
 ·exact ⟨by simp, by rw [zvi]; rfl, by omega, by rw [zfc]; omega⟩
 ·intro ⟨k, n⟩ ⟨hk, hr, h1, h2⟩
  simp only at hk hr h1 h2
  by_cases hlt : k < a.args.length
  ·have hd := ziw Tm.nodes a.args k hlt
   obtain ⟨s1, s2, s3⟩ := zmy a.args[k]
   rw [List.drop_eq_getElem_cons hlt, List.map_cons, szL] at hr
   simp -implicitDefEqProofs only [go_sem, zaf, hlt, zab]
   refine ⟨fun h => ?_, fun h => ?_⟩
   ·rw [hr, if_pos (by simpa using h)]
   ·refine callF (H a.args[k] (List.getElem_mem hlt)) (by simp -implicitDefEqProofs only [go_sem, zab]) ?_
    simp -implicitDefEqProofs only [go_sem, zab]
    rw [if_neg (by simpa using h)] at hr
    exact ⟨(k + 1, n + zf8 a.args[k]), ⟨hlt, hr, by simp only; omega, by simp only; omega⟩, by simp only; omega, zac (by simp -implicitDefEqProofs only [go_sem]; rw [zas (by omega), zbk (by omega) (by omega)]; exact ⟨rfl, rfl⟩)⟩
  ·simp -implicitDefEqProofs only [go_sem, hlt]
   rw [hr, List.drop_of_length_le (by omega)]; rfl
theorem size_c : ∀ a : Tm, a.wt <= 1099511627776 -> FC Tryz.prog 259 [tmD a] [iD (zf8 a)] :=
 zbx fun n xs ih hs => qmi (.mk n xs) hs fun x hx => ih x hx (by
  have := Tm.wt_eq (.mk n xs)
  have := zbu Tm.wt xs x hx
  simp only [Tm.args] at *; omega)
set_option maxHeartbeats 400000 in
theorem qgz (a : Tm) (hs : a.wt <= 1099511627776) (H : ∀ x ∈ a.args, FC Tryz.prog 260 [tmD x] [iD x.depth]) : FC Tryz.prog 260 [tmD a] [iD a.depth] := by
 have hl : a.args.length <= 9223372036854775807 := by rw [Tm.wt_eq] at hs; omega
 have hn := zfh a
 have hdn := zk8 a
 have hD := a.depth_eq
 simp only [tmD, zab]
 refine zag Tryz.call260 Tryz.func260 rfl (by kernel_rfl) (zau (by kernel_rfl)) ?_
 simp -implicitDefEqProofs only [go_sem, Tryz.results260]
 refine zad (fun p : Nat × Nat => hd [(3, vI p.2), (7, vT (tmS a.args)), (8, vI a.args.length), (9, vI p.1)] [] []) (fun p => p.1 <= a.args.length /\ a.depth = ((a.args.drop p.1).map Tm.depth).foldl max p.2 + 1) (fun p => a.args.length - p.1) (0, 0) (zac ?_) ?_ ?_
 ·simp -implicitDefEqProofs only [go_sem]
 ·exact ⟨by simp, hD⟩
 ·intro ⟨k, n⟩ ⟨hk, hr⟩
  simp only at hk hr
  by_cases hlt : k < a.args.length
  ·rw [List.drop_eq_getElem_cons hlt, List.map_cons, List.foldl_cons] at hr
   simp -implicitDefEqProofs only [go_sem, zaf, hlt, zab]
   refine callF (H a.args[k] (List.getElem_mem hlt)) (by simp -implicitDefEqProofs only [go_sem, zab]) ?_
   simp -implicitDefEqProofs only [go_sem, zab]
   exact ⟨(k + 1, max n a.args[k].depth), ⟨hlt, hr⟩, by simp only; omega, zac (by simp -implicitDefEqProofs only [go_sem]; rw [zas (by omega)]; exact ⟨by congr 1; omega, rfl⟩)⟩
  ·simp -implicitDefEqProofs only [go_sem, hlt]
   rw [List.drop_of_length_le (by omega)] at hr
   simp only [List.map_nil, List.foldl_nil] at hr
   rw [hr, zas (by omega)]
theorem qmv : ∀ a : Tm, a.wt <= 1099511627776 -> FC Tryz.prog 260 [tmD a] [iD a.depth] :=
 zbx fun n xs ih hs => qgz (.mk n xs) hs fun x hx => ih x hx (by
  have := Tm.wt_eq (.mk n xs)
  have := zbu Tm.wt xs x hx
  simp only [Tm.args] at *; omega)
def zd7 (a : Tm) : Bool := decide (a.nodes <= 30) && decide (a.depth <= 8)
theorem zrg (a : Tm) (hs : a.wt <= 1099511627776) : FC Tryz.prog 188 [tmD a] [bD (zd7 a)] := by
 simp only [tmD, zab]
 refine zag Tryz.call188 Tryz.func188 rfl (by kernel_rfl) (zau (by kernel_rfl)) ?_
 simp -implicitDefEqProofs only [go_sem, Tryz.results188]
 refine callF (size_c a hs) (by simp -implicitDefEqProofs only [go_sem, zab]) ?_
 simp -implicitDefEqProofs only [go_sem, zab]
 rw [qgs]
 refine ⟨fun h => ?_, fun h => ?_⟩
 ·refine callF (qmv a hs) (by simp -implicitDefEqProofs only [go_sem, zab]) ?_
  simp -implicitDefEqProofs only [go_sem, zab]
  rw [zd7, h, Bool.true_and]
  congr 1
  rw [decide_eq_decide]; omega
 ·rw [zd7, h]; rfl
end Go.Proofs.YtemnhgmgeijkcaaGreat
namespace Go.Proofs.YtemnhgmgeijkcaaGreat
set_option linter.unusedSimpArgs false
set_option linter.unusedVariables false
set_option linter.unusedSectionVars false
set_option maxRecDepth 4000
open Go.RowKit
theorem qg2 (σ : St) (caps : List T) : VDs σ (caps.map fun t => .one (.t t)) (caps.map .one) = True := by
 induction caps with
 | nil => simp [VDs]
 | cons t ts ih => rw [List.map_cons, List.map_cons, zv1, ih]; simp [qjd, CT_t]
attribute [go_sem] qg2
def qik {α : Type} (xs : List α) (p : α -> Bool) : Int := if xs.any p then xs.findIdx p else -1
theorem zme {α : Type} {xs : List α} {p : α -> Bool} {k : Nat} (hk : k < xs.length) (hn : ∀ x ∈ xs.take k, p x = false) (h : p xs[k] = true) : qik xs p = k := by
 have ha : xs.any p = true := List.any_eq_true.2 ⟨xs[k], List.getElem_mem hk, h⟩
 have hf : xs.findIdx p = k := (List.findIdx_eq hk).2 ⟨h, fun j hj => hn _ (by
  rw [List.mem_take_iff_getElem]; exact ⟨j, by omega, rfl⟩)⟩
 rw [qik, if_pos ha, hf]
theorem zqn {α : Type} {xs : List α} {p : α -> Bool} (hn : ∀ x ∈ xs, p x = false) : qik xs p = -1 := by
 have ha : xs.any p = false := by rw [List.any_eq_false]; exact fun x hx => by simp [hn x hx]
 rw [qik, ha]; rfl
theorem zuu {α : Type} (xs : List α) (p : α -> Bool) : decide (0 <= qik xs p) = xs.any p := by
 unfold qik
 cases xs.any p <;> simp
theorem zhm {α : Type} {xs : List α} {p : α -> Bool} {k : Nat} (hk : k < xs.length) (hn : ∀ x ∈ xs.take k, p x = false) (h : p xs[k] = false) : ∀ x ∈ xs.take (k + 1), p x = false := by
 rw [List.take_succ_eq_append_getElem hk]
 intro x hx
 rcases List.mem_append.1 hx with hx | hx
 ·exact hn x hx
 ·rw [List.mem_singleton.1 hx]; exact h
theorem zkz (xs : List Tm) (p : Tm -> Bool) (g : FuncId) (caps : List T) (H : ∀ x ∈ xs, FC Tryz.prog g (tmD x :: caps.map .one) [bD (p x)]) : FC Tryz.prog 122 [.one (tmS xs), .one (.fn g caps)] [iD (qik xs p)] := by
 refine zc7 (fun hw => ?_) Tryz.call122
 have hl : xs.length <= 9223372036854775807 := by simpa [zfj, wfT] using hw.1.1
 refine zag Tryz.call122 Tryz.func122 rfl (by kernel_rfl) (zau (by kernel_rfl)) ?_
 simp -implicitDefEqProofs only [go_sem, Tryz.results122]
 refine zad (fun k : Nat => hd [(0, vT (tmS xs)), (1, vT (.fn g caps)), (7, vI xs.length), (8, vI k)] [] []) (fun k => k <= xs.length /\ ∀ x ∈ xs.take k, p x = false) (fun k => xs.length - k) 0 (zac ?_) ?_ ?_
 ·simp -implicitDefEqProofs only [go_sem]
 ·simp
 ·intro k ⟨hk, hr⟩
  by_cases hlt : k < xs.length
  ·simp -implicitDefEqProofs only [go_sem, zaf, hlt, zab]
   refine callF (H xs[k] (List.getElem_mem hlt)) (by simp -implicitDefEqProofs only [go_sem, zab]) ?_
   simp -implicitDefEqProofs only [go_sem, zab]
   refine ⟨fun h => ?_, fun h => ⟨k + 1, ⟨hlt, zhm hlt hr h⟩, by omega, zac (by simp -implicitDefEqProofs only [go_sem]; rw [zas (by omega)])⟩⟩
   rw [zme hlt hr h]
  ·simp -implicitDefEqProofs only [go_sem, hlt]
   rw [List.take_of_length_le (by omega)] at hr
   rw [zqn hr]
theorem zho (xs : List Tm) (p : Tm -> Bool) (g : FuncId) (caps : List T) (H : ∀ x ∈ xs, FC Tryz.prog g (tmD x :: caps.map .one) [bD (p x)]) : FC Tryz.prog 66 [.one (tmS xs), .one (.fn g caps)] [bD (xs.any p)] := by
 refine zag Tryz.call66 Tryz.func66 rfl (by kernel_rfl) (zau (by kernel_rfl)) ?_
 simp -implicitDefEqProofs only [go_sem, Tryz.results66]
 refine callF (zkz xs p g caps H) (by simp -implicitDefEqProofs only [go_sem]) ?_
 simp -implicitDefEqProofs only [go_sem]
 rw [zuu]
theorem zhu (xs : List Fm) (p : Fm -> Bool) (g : FuncId) (caps : List T) (H : ∀ x ∈ xs, FC Tryz.prog g (fmD x :: caps.map .one) [bD (p x)]) : FC Tryz.prog 202 [.one (fmS xs), .one (.fn g caps)] [iD (qik xs p)] := by
 refine zc7 (fun hw => ?_) Tryz.call202
 have hl : xs.length <= 9223372036854775807 := by simpa [zfj, wfT] using hw.1.1
 refine zag Tryz.call202 Tryz.func202 rfl (by kernel_rfl) (zau (by kernel_rfl)) ?_
 simp -implicitDefEqProofs only [go_sem, Tryz.results202]
 refine zad (fun k : Nat => hd [(0, vT (fmS xs)), (1, vT (.fn g caps)), (7, vI xs.length), (8, vI k)] [] []) (fun k => k <= xs.length /\ ∀ x ∈ xs.take k, p x = false) (fun k => xs.length - k) 0 (zac ?_) ?_ ?_
 ·simp -implicitDefEqProofs only [go_sem]
 ·simp
 ·intro k ⟨hk, hr⟩
  by_cases hlt : k < xs.length
  ·simp -implicitDefEqProofs only [go_sem, zaf, hlt, zaa, zab]
   refine callF (H xs[k] (List.getElem_mem hlt)) (by simp -implicitDefEqProofs only [go_sem, zaa, zab]) ?_
   simp -implicitDefEqProofs only [go_sem, zaa, zab]
   refine ⟨fun h => ?_, fun h => ⟨k + 1, ⟨hlt, zhm hlt hr h⟩, by omega, zac (by simp -implicitDefEqProofs only [go_sem]; rw [zas (by omega)])⟩⟩
   rw [zme hlt hr h]
  ·simp -implicitDefEqProofs only [go_sem, hlt]
   rw [List.take_of_length_le (by omega)] at hr
   rw [zqn hr]
theorem zaz (xs : List Fm) (p : Fm -> Bool) (g : FuncId) (caps : List T) (H : ∀ x ∈ xs, FC Tryz.prog g (fmD x :: caps.map .one) [bD (p x)]) : FC Tryz.prog 140 [.one (fmS xs), .one (.fn g caps)] [bD (xs.any p)] := by
 refine zag Tryz.call140 Tryz.func140 rfl (by kernel_rfl) (zau (by kernel_rfl)) ?_
 simp -implicitDefEqProofs only [go_sem, Tryz.results140]
 refine callF (zhu xs p g caps H) (by simp -implicitDefEqProofs only [go_sem]) ?_
 simp -implicitDefEqProofs only [go_sem]
 rw [zuu]
end Go.Proofs.YtemnhgmgeijkcaaGreat
namespace Go.Proofs.YtemnhgmgeijkcaaGreat
set_option linter.unusedSimpArgs false
set_option linter.unusedVariables false
set_option linter.unusedSectionVars false
set_option maxRecDepth 4000
open Go.RowKit
def Tm.names : Tm -> Bool := Tm.fold fun n xs rs => if zbc n = true then decide (xs.length = 0) else zc4 n && decide (xs.length <= 4) && rs.all id
theorem Tm.names_eq (a : Tm) : a.names = if zbc a.name = true then decide (a.args.length = 0) else zc4 a.name && decide (a.args.length <= 4) && a.args.all Tm.names := by
 unfold Tm.names
 rw [Tm.fold_eq]
 simp only [List.all_map]
 rfl
theorem zd4 {α : Type} (xs : List α) (p : α -> Bool) : (!xs.any fun x => !p x) = xs.all p := by
 induction xs with
 | nil => rfl
 | cons x xs ih => simp only [List.any_cons, List.all_cons, Bool.not_or, Bool.not_not, ih]
theorem zta (a : Tm) (H : ∀ x ∈ a.args, FC Tryz.prog 189 [tmD x] [bD x.names]) : FC Tryz.prog 189 [tmD a] [bD a.names] := by
 have H1 : ∀ x ∈ a.args, FC Tryz.prog 262 [tmD x] [bD (!x.names)] := fun x hx => by
  simp only [tmD, zab]
  refine zag Tryz.call262 Tryz.func262 rfl (by kernel_rfl) (zau (by kernel_rfl)) ?_
  simp -implicitDefEqProofs only [go_sem, Tryz.results262]
  refine callF (H x hx) (by simp -implicitDefEqProofs only [go_sem, zab]) ?_
  simp -implicitDefEqProofs only [go_sem, zab]
 have hN := a.names_eq
 simp only [tmD, zab]
 refine zag Tryz.call189 Tryz.func189 rfl (by kernel_rfl) (zau (by kernel_rfl)) ?_
 simp -implicitDefEqProofs only [go_sem, Tryz.results189]
 refine callF (zdz a.name) (by simp -implicitDefEqProofs only [go_sem]) ?_
 simp -implicitDefEqProofs only [go_sem]
 refine ⟨fun h => ?_, fun h => ?_⟩
 ·rw [hN, if_pos h]
  congr 1
  rw [Bool.eq_iff_iff]; simp
 ·rw [h] at hN
  simp only [Bool.false_eq_true, if_false] at hN
  refine callF (zmv a.name) (by simp -implicitDefEqProofs only [go_sem]) ?_
  simp -implicitDefEqProofs only [go_sem]
  refine ⟨fun h1 => ⟨fun h2 => ?_, fun h2 => ?_⟩, fun h1 => ?_⟩
  ·refine callF (zho a.args (fun x => !x.names) _ [] H1) (by simp -implicitDefEqProofs only [go_sem]) ?_
   simp -implicitDefEqProofs only [go_sem]
   rw [zd4, hN, h1, Bool.true_and]
   rw [show decide (a.args.length <= 4) = true by simp at h2 ⊢; omega]; rfl
  ·rw [hN, h1, Bool.true_and, show decide (a.args.length <= 4) = false by simp at h2 ⊢; omega]; rfl
  ·rw [hN, h1]; rfl
theorem ziu : ∀ a : Tm, FC Tryz.prog 189 [tmD a] [bD a.names] := zbx fun n xs ih => zta (.mk n xs) ih
def Tm.good (a : Tm) : Bool := zd7 a && a.names
theorem zhl (a : Tm) (hs : a.wt <= 1099511627776) : FC Tryz.prog 123 [tmD a] [bD a.good] := by
 simp only [tmD, zab]
 refine zag Tryz.call123 Tryz.func123 rfl (by kernel_rfl) (zau (by kernel_rfl)) ?_
 simp -implicitDefEqProofs only [go_sem, Tryz.results123]
 refine callF (zrg a hs) (by simp -implicitDefEqProofs only [go_sem, zab]) ?_
 simp -implicitDefEqProofs only [go_sem, zab]
 refine ⟨fun h => ?_, fun h => ?_⟩
 ·refine callF (ziu a) (by simp -implicitDefEqProofs only [go_sem, zab]) ?_
  simp -implicitDefEqProofs only [go_sem, zab]
  rw [Tm.good, h, Bool.true_and]
 ·rw [Tm.good, h, Bool.false_and]
theorem zqk (a : Tm) : FC Tryz.prog 284 [tmD a] [bD (a.name == [61])] := by
 simp only [tmD, zab]
 refine zag Tryz.call284 Tryz.func284 rfl (by kernel_rfl) (zau (by kernel_rfl)) ?_
 simp -implicitDefEqProofs only [go_sem, Tryz.results284]
def Tm.atomOk (a : Tm) : Bool := if (a.name == [61]) = true then decide (a.args.length = 2) && zd7 a && a.args.all Tm.names else zc4 a.name && a.good
theorem qaw {α : Type} {xs : List α} {p : α -> Bool} (h : xs.length = 2) : xs.all p = (p (xs[0]'(by omega)) && p (xs[1]'(by omega))) := by
 match xs, h with
 | [a, b], _ => simp
theorem zoy (a : Tm) (hs : a.wt <= 1099511627776) : FC Tryz.prog 244 [tmD a] [bD a.atomOk] := by
 have hN : a.atomOk = if (a.name == [61]) = true then decide (a.args.length = 2) && zd7 a && a.args.all Tm.names else zc4 a.name && a.good := rfl
 simp only [tmD, zab]
 refine zag Tryz.call244 Tryz.func244 rfl (by kernel_rfl) (zau (by kernel_rfl)) ?_
 simp -implicitDefEqProofs only [go_sem, Tryz.results244]
 refine callF (zqk a) (by simp -implicitDefEqProofs only [go_sem, zab]) ?_
 simp -implicitDefEqProofs only [go_sem, zab]
 refine ⟨fun h => ?_, fun h => ?_⟩
 ·rw [if_pos h] at hN
  by_cases h2 : a.args.length = 2
  ·have k0 : 0 < a.args.length := by omega
   have k1 : 1 < a.args.length := by omega
   have e2 : ((a.args.length : Int) == 2) = true := by simp [h2]
   have l0 : (0 : Int) < a.args.length := by omega
   have l1 : (1 : Int) < a.args.length := by omega
   rw [qaw h2, show decide (a.args.length = 2) = true by simp [h2]] at hN
   simp only [Bool.true_and] at hN
   simp only [e2, qah, zge, qj4, ze9, and_true]
   refine callF (zrg a hs) (by simp -implicitDefEqProofs only [go_sem, zab, l0, zaf, k0]) ?_
   simp -implicitDefEqProofs only [go_sem, zab, l0, zaf, k0]
   refine ⟨fun h3 => ?_, fun h3 => ?_⟩
   ·refine callF (ziu a.args[0]) (by simp -implicitDefEqProofs only [go_sem, zab, l1, zaf, k1]) ?_
    simp -implicitDefEqProofs only [go_sem, zab, l1, zaf, k1]
    refine ⟨fun h4 => ?_, fun h4 => ?_⟩
    ·refine callF (ziu a.args[1]) (by simp -implicitDefEqProofs only [go_sem, zab]) ?_
     simp -implicitDefEqProofs only [go_sem, zab]
     rw [hN, h3, h4]; rfl
    ·rw [hN, h3, h4]; rfl
   ·rw [hN, h3]; rfl
  ·have e2 : ((a.args.length : Int) == 2) = false := by simp; omega
   simp only [e2, qah, qkv, zge, ze9, and_true, true_and, qlt]
   rw [hN, show decide (a.args.length = 2) = false by simpa using h2]; rfl
 ·rw [h] at hN
  simp only [Bool.false_eq_true, if_false] at hN
  refine callF (zmv a.name) (by simp -implicitDefEqProofs only [go_sem]) ?_
  simp -implicitDefEqProofs only [go_sem]
  refine ⟨fun h3 => ?_, fun h3 => ?_⟩
  ·refine callF (zhl a hs) (by simp -implicitDefEqProofs only [go_sem, zab]) ?_
   simp -implicitDefEqProofs only [go_sem, zab]
   rw [hN, h3, Bool.true_and]
  ·rw [hN, h3, Bool.false_and]
def Tm.none (a : Tm) : Bool := a.name == [] && decide (a.args.length = 0)
theorem za4 (a : Tm) : FC Tryz.prog 203 [tmD a] [bD a.none] := by
 simp only [tmD, zab]
 refine zag Tryz.call203 Tryz.func203 rfl (by kernel_rfl) (zau (by kernel_rfl)) ?_
 simp -implicitDefEqProofs only [go_sem, Tryz.results203]
 unfold Tm.none
 refine ⟨fun h => ?_, fun h => ?_⟩
 ·rw [h, Bool.true_and]
  congr 1
  rw [Bool.eq_iff_iff]; simp
 ·rw [h]; rfl
def isQ (n : Int) : Bool := n == 8 || n == 9
def zop (n : Int) : Bool := n == 5 || n == 6 || n == 7
theorem zar (n : Int) : FC Tryz.prog 232 [iD n] [bD (isQ n)] := by
 refine zag Tryz.call232 Tryz.func232 rfl (by kernel_rfl) (zau (by kernel_rfl)) ?_
 simp -implicitDefEqProofs only [go_sem, Tryz.results232]
 unfold isQ
 refine ⟨fun h => ?_, fun h => ?_⟩ <;> simp [h]
theorem zgl (n : Int) : FC Tryz.prog 243 [iD n] [bD (zop n)] := by
 refine zag Tryz.call243 Tryz.func243 rfl (by kernel_rfl) (zau (by kernel_rfl)) ?_
 simp -implicitDefEqProofs only [go_sem, Tryz.results243]
 unfold zop
 refine ⟨fun h => ⟨fun h2 => ?_, fun h2 => ?_⟩, fun h => ?_⟩ <;> simp [*]
end Go.Proofs.YtemnhgmgeijkcaaGreat
namespace Go.Proofs.YtemnhgmgeijkcaaGreat
set_option linter.unusedSimpArgs false
set_option linter.unusedVariables false
set_option linter.unusedSectionVars false
set_option maxRecDepth 4000
open Go.RowKit
def voI : Tm -> List Str := Tm.fold fun n xs rs => if (decide (xs.length = 0) && zlx (n.getD 0 0)) = true then [n] else rs.flatten
theorem qbm (a : Tm) : voI a = if (decide (a.args.length = 0) && zlx (a.name.getD 0 0)) = true then [a.name] else (a.args.map voI).flatten := Tm.fold_eq _ a
def voS : Tm -> List Str := Tm.fold fun n _ rs => if zbc n = true then [n] else rs.flatten
theorem zqu (a : Tm) : voS a = if zbc a.name = true then [a.name] else (a.args.map voS).flatten := Tm.fold_eq _ a
def Tm.ne : Tm -> Bool := Tm.fold fun n xs rs => (!decide (xs.length = 0) || decide (0 < n.length)) && rs.all id
theorem Tm.ne_eq' (a : Tm) : a.ne = ((!decide (a.args.length = 0) || decide (0 < a.name.length)) && a.args.all Tm.ne) := by
 unfold Tm.ne
 rw [Tm.fold_eq]
 simp only [List.all_map]
 rfl
def zti (l : List Str) (s : Str) : List Str := if l.contains s = true then l else l ++ [s]
def zc6 (l : List Str) (ss : List Str) : List Str := ss.foldl zti l
theorem qg7 (l : List Str) (s : Str) : (zti l s).length <= l.length + 1 := by unfold zti; split <;> simp
theorem zeg : ∀ (ss : List Str) (l : List Str), (zc6 l ss).length <= l.length + ss.length
 | [], l => by simp [zc6]
 | s :: ss, l => by have := zeg ss (zti l s); have := qg7 l s; simp only [zc6, List.foldl_cons, List.length_cons] at *; omega
theorem zhk (l a b : List Str) : zc6 l (a ++ b) = zc6 (zc6 l a) b := List.foldl_append ..
theorem qf4 (l : List Str) (s x : Str) : x ∈ zti l s ↔ x = s \/ x ∈ l := by
 unfold zti
 split
 ·rename_i h
  have h : s ∈ l := by simpa using h
  exact ⟨Or.inr, fun k => k.elim (fun e => e ▸ h) id⟩
 ·simp [or_comm]
theorem zre : ∀ (ss l : List Str) (x : Str), x ∈ zc6 l ss ↔ x ∈ ss \/ x ∈ l
 | [], l, x => by simp [zc6]
 | s :: ss, l, x => by
  show x ∈ zc6 (zti l s) ss ↔ _
  rw [zre ss, qf4]; simp [or_assoc, or_left_comm, or_comm]
theorem qj2 {l : List Str} (h : l.Nodup) (s : Str) : (zti l s).Nodup := by
 unfold zti
 split
 ·exact h
 ·rename_i hn
  have hn : s ∉ l := by simpa using hn
  exact List.nodup_append.2 ⟨h, by simp, fun a ha b hb e => hn (by rw [List.mem_singleton.1 hb] at e; exact e ▸ ha)⟩
theorem zus : ∀ (ss : List Str) {l : List Str}, l.Nodup -> (zc6 l ss).Nodup
 | [], _, h => h
 | s :: ss, _, h => zus ss (qj2 h s)
def zba (l : List Str) (ss : List Str) : List Str := ss.foldl zu1 l
theorem zve (l : List Str) (s : Str) : (zu1 l s).length <= l.length + 1 := by
 unfold zu1
 split
 ·omega
 ·have : l.length = ((l.takeWhile fun x => Op.bytesLess x s) ++ l.dropWhile fun x => Op.bytesLess x s).length := by rw [List.takeWhile_append_dropWhile]
  simp only [List.length_append, List.length_cons, List.length_nil] at *; omega
theorem zcr : ∀ (ss : List Str) (l : List Str), (zba l ss).length <= l.length + ss.length
 | [], l => by simp [zba]
 | s :: ss, l => by have := zcr ss (zu1 l s); have := zve l s; simp only [zba, List.foldl_cons, List.length_cons] at *; omega
theorem ze4 (l a b : List Str) : zba l (a ++ b) = zba (zba l a) b := List.foldl_append ..
theorem zf4 : ∀ (ss l : List Str) (x : Str), x ∈ zba l ss ↔ x ∈ ss \/ x ∈ l
 | [], l, x => by simp [zba]
 | s :: ss, l, x => by
  show x ∈ zba (zu1 l s) ss ↔ _
  rw [zf4 ss, qhy]; simp [or_assoc, or_left_comm, or_comm]
theorem zqt : ∀ (ss : List Str) {l : List Str}, Srt l -> Srt (zba l ss)
 | [], _, h => h
 | s :: ss, _, h => zqt ss (qhn h s)
theorem zuz (ss : List Str) : zjq (zc6 [] ss) = zba [] ss :=
 qkj (qbd (zus ss List.nodup_nil)) (zqt ss List.Pairwise.nil) fun s => by rw [qa0, zre, zf4]
theorem ql2 (a : Tm) (h : 0 < a.name.length) : FC Tryz.prog 190 [tmD a] [bD (zlx (a.name.getD 0 0))] := by
 simp only [tmD, zab]
 refine zag Tryz.call190 Tryz.func190 rfl (by kernel_rfl) (zau (by kernel_rfl)) ?_
 simp -implicitDefEqProofs only [go_sem, Tryz.results190]
 have h0 : (0 : Int) < a.name.length := by omega
 simp -implicitDefEqProofs only [go_sem, h0, h]
 refine callF (zq0 (a.name.getD 0 0)) (by simp -implicitDefEqProofs only [go_sem]) ?_
 simp -implicitDefEqProofs only [go_sem]
theorem zc9 {α : Type} (f : α -> List Str) (xs : List α) (k : Nat) (h : k < xs.length) : ((xs.take (k + 1)).map f).flatten = ((xs.take k).map f).flatten ++ f xs[k] := by
 rw [List.take_succ_eq_append_getElem h, List.map_append, List.flatten_append]; simp
theorem zsg {α : Type} (f : α -> List Str) : ∀ (xs : List α), ∀ x ∈ xs, (f x).length <= ((xs.map f).flatten).length
 | [], x, h => by simp at h
 | a :: xs, x, h => by
  rcases List.mem_cons.1 h with rfl | h
  ·simp
  ·have := zsg f xs x h; simp at *; omega
theorem zca {α : Type} (f : α -> List Str) (xs : List α) (k : Nat) (h : k < xs.length) : (((xs.take k).map f).flatten).length + (f xs[k]).length <= ((xs.map f).flatten).length := by
 have e : xs = xs.take k ++ xs[k] :: xs.drop (k + 1) := by rw [<- List.drop_eq_getElem_cons h, List.take_append_drop]
 conv => rhs; rw [e]
 simp only [List.map_append, List.map_cons, List.flatten_append, List.flatten_cons, List.length_append]; omega
set_option maxHeartbeats 1000000 in
theorem zyb (a : Tm) (ha : a.ne = true) (H : ∀ x ∈ a.args, ∀ ys : List Str, ys.length + (voI x).length <= 1073741824 -> GC Tryz.prog 124 [(true, .one (zcm ys)), (false, tmD x)] [.one (zcm (zc6 ys (voI x)))])
  (ys : List Str) (hs : ys.length + (voI a).length <= 1073741824) (hl : a.args.length <= 1099511627776) : GC Tryz.prog 124 [(true, .one (zcm ys)), (false, tmD a)] [.one (zcm (zc6 ys (voI a)))] := by
 have hv := qbm a
 rw [Tm.ne_eq'] at ha
 simp only [tmD, zab]
 refine zvk Tryz.call124 Tryz.func124 rfl (by kernel_rfl) (by simp only [List.length_cons, List.length_nil, Tryz.ntmps124]; omega) (by simp [zb6, T.isPin]) ?_
 simp -implicitDefEqProofs only [go_sem, Tryz.results124]
 by_cases h0 : a.args.length = 0
 ·have hn : 0 < a.name.length := by simp [h0] at ha; omega
  have e0 : ((a.args.length : Int) == 0) = true := by simp [h0]
  have hV := ql2 a hn
  simp only [tmD, zab] at hV
  simp -implicitDefEqProofs only [go_sem, e0]
  refine callF (hV) (by simp -implicitDefEqProofs only [go_sem]) ?_
  simp -implicitDefEqProofs only [go_sem]
  refine ⟨fun h1 => ?_, fun h1 => ?_⟩
  ·rw [h1, show decide (a.args.length = 0) = true by simpa using h0, Bool.true_and, if_pos rfl] at hv
   rw [hv] at hs ⊢
   refine callF (zcv ys a.name) (by simp -implicitDefEqProofs only [go_sem]) ?_
   simp -implicitDefEqProofs only [go_sem]
   have hy : ys.length + 1 <= 4294967296 := by simp at hs; omega
   have hy2 : ys.length <= 4294967295 := by simp at hs; omega
   refine ⟨fun h2 => ?_, fun h2 => ?_⟩
   ·have h2 : ys.contains a.name = false := by simpa using h2
    refine zal (by simp -implicitDefEqProofs only [go_sem]) ?_
    simp -implicitDefEqProofs only [go_sem]
    refine apD true (by simp -implicitDefEqProofs only [go_sem, hy, hy2, ne_eq, List.length_map]) ?_
    simp -implicitDefEqProofs only [go_sem, hy, hy2, ne_eq, List.length_map]
    have e : zc6 ys [a.name] = ys ++ [a.name] := by show zti ys a.name = _; unfold zti; rw [h2]; simp
    exact Or.inl (by rw [e]; simp)
   ·have h2 : ys.contains a.name = true := by simpa using h2
    have e : zc6 ys [a.name] = ys := by show zti ys a.name = _; unfold zti; rw [h2]; simp
    exact Or.inl (by rw [e])
  ·rw [h1, Bool.and_false, if_neg (by simp), List.length_eq_zero_iff.1 h0, List.map_nil, List.flatten_nil] at hv
   have hv : voI a = (a.args.map voI).flatten := by rw [hv, List.length_eq_zero_iff.1 h0]; rfl
   rw [hv] at hs ⊢
   refine zad (fun k : Nat => hd [(0, .one (.ow 0 0)), (27, .one (.rn (tmS a.args))), (28, vI a.args.length), (29, vI k)] [] [(0, ⟨true, 1, (zc6 ys ((a.args.take k).map voI).flatten).map fun s => [.str s], 0, true⟩)]) (fun k => k <= a.args.length) (fun k => a.args.length - k) 0 (zac ?_) (Nat.zero_le _) ?_
   ·simp -implicitDefEqProofs only [go_sem]
    rfl
   ·intro k hk
    by_cases hlt : k < a.args.length
    ·have hf := zca voI a.args k hlt
     have hL := zeg ((a.args.take k).map voI).flatten ys
     have hx := zsg voI a.args _ (List.getElem_mem hlt)
     have HC := H a.args[k] (List.getElem_mem hlt) (zc6 ys ((a.args.take k).map voI).flatten) (by omega)
     rw [<- zhk, <- zc9 voI a.args k hlt] at HC
     simp only [tmD, zab a.args[k]] at HC
     simp -implicitDefEqProofs only [go_sem, zaf, hlt, zab a.args[k]]
     refine zdw [27, 28, 29] [33, 34] [] (HC) (by simp -implicitDefEqProofs only [go_sem]) (by simp -implicitDefEqProofs only [go_sem]) (by simp -implicitDefEqProofs only [go_sem]) (by simp -implicitDefEqProofs only [go_sem]) ?_
     simp -implicitDefEqProofs only [go_sem]
     refine ⟨k + 1, hlt, by omega, zde 0 1120 ?_⟩
     simp -implicitDefEqProofs only [go_sem]
     rw [zas (by omega)]
    ·simp -implicitDefEqProofs only [go_sem, hlt]
     exact Or.inl (by rw [List.take_of_length_le (by omega)])
 ·have e0 : ((a.args.length : Int) == 0) = false := by simp [h0]
  rw [show decide (a.args.length = 0) = false by simpa using h0, Bool.false_and, if_neg (by simp)] at hv
  rw [hv] at hs ⊢
  simp -implicitDefEqProofs only [go_sem, e0]
  refine zad (fun k : Nat => hd [(0, .one (.ow 0 0)), (27, .one (.rn (tmS a.args))), (28, vI a.args.length), (29, vI k)] [] [(0, ⟨true, 1, (zc6 ys ((a.args.take k).map voI).flatten).map fun s => [.str s], 0, true⟩)]) (fun k => k <= a.args.length) (fun k => a.args.length - k) 0 (zac ?_) (Nat.zero_le _) ?_
  ·simp -implicitDefEqProofs only [go_sem]
   rfl
  ·intro k hk
   by_cases hlt : k < a.args.length
   ·have hf := zca voI a.args k hlt
    have hL := zeg ((a.args.take k).map voI).flatten ys
    have hx := zsg voI a.args _ (List.getElem_mem hlt)
    have HC := H a.args[k] (List.getElem_mem hlt) (zc6 ys ((a.args.take k).map voI).flatten) (by omega)
    rw [<- zhk, <- zc9 voI a.args k hlt] at HC
    simp only [tmD, zab a.args[k]] at HC
    simp -implicitDefEqProofs only [go_sem, zaf, hlt, zab a.args[k]]
    refine zdw [27, 28, 29] [33, 34] [] (HC) (by simp -implicitDefEqProofs only [go_sem]) (by simp -implicitDefEqProofs only [go_sem]) (by simp -implicitDefEqProofs only [go_sem]) (by simp -implicitDefEqProofs only [go_sem]) ?_
    simp -implicitDefEqProofs only [go_sem]
    refine ⟨k + 1, hlt, by omega, zde 0 1120 ?_⟩
    simp -implicitDefEqProofs only [go_sem]
    rw [zas (by omega)]
   ·simp -implicitDefEqProofs only [go_sem, hlt]
    exact Or.inl (by rw [List.take_of_length_le (by omega)])
theorem qc8 : ∀ a : Tm, a.ne = true -> a.wt <= 1099511627776 -> ∀ ys : List Str, ys.length + (voI a).length <= 1073741824 -> GC Tryz.prog 124 [(true, .one (zcm ys)), (false, tmD a)] [.one (zcm (zc6 ys (voI a)))] :=
 zbx fun n xs ih ha hw ys hs => zyb (.mk n xs) ha (fun x hx ys hs => ih x hx (by rw [Tm.ne_eq', Bool.and_eq_true] at ha; exact List.all_eq_true.1 ha.2 x hx) (by
  have := Tm.wt_eq (.mk n xs)
  have := zbu Tm.wt xs x hx
  simp only [Tm.args] at *; omega) ys hs) ys hs (by have := Tm.wt_eq (.mk n xs); omega)
theorem zsq (a : Tm) (ha : a.ne = true) (hw : a.wt <= 1099511627776) (hs : (voI a).length <= 1073741824) : FC Tryz.prog 246 [tmD a] [.one (zcm (zba [] (voI a)))] := by
 have HC := qc8 a ha hw [] (by simpa using hs)
 have HS := zqo (zc6 [] (voI a)) (by have := zeg (voI a) []; simp at this; omega)
 rw [zuz] at HS
 simp only [tmD, zab] at HC ⊢
 refine zg1 Tryz.call246 Tryz.func246 rfl (by kernel_rfl) (zau (by kernel_rfl)) ?_
 simp -implicitDefEqProofs only [go_sem, Tryz.results246]
 refine zal (by simp -implicitDefEqProofs only [go_sem]) ?_
 simp -implicitDefEqProofs only [go_sem]
 refine zdw [] [4, 5] [] (HC) (by simp -implicitDefEqProofs only [go_sem]) (by simp -implicitDefEqProofs only [go_sem]) (by simp -implicitDefEqProofs only [go_sem]) (by simp -implicitDefEqProofs only [go_sem]) ?_
 simp -implicitDefEqProofs only [go_sem]
 refine qjj (HS) (by simp -implicitDefEqProofs only [go_sem, zc5]) (by simp -implicitDefEqProofs only [go_sem, zc5]) rfl ?_
 simp -implicitDefEqProofs only [go_sem, zc5]
theorem qcb (a : Tm) (H : ∀ x ∈ a.args, ∀ ys : List Str, ys.length + (voS x).length <= 1073741824 -> GC Tryz.prog 241 [(true, .one (zcm ys)), (false, tmD x)] [.one (zcm (zba ys (voS x)))])
  (ys : List Str) (hs : ys.length + (voS a).length <= 1073741824) (hl : a.args.length <= 1099511627776) : GC Tryz.prog 241 [(true, .one (zcm ys)), (false, tmD a)] [.one (zcm (zba ys (voS a)))] := by
 have hv := zqu a
 simp only [tmD, zab]
 refine zvk Tryz.call241 Tryz.func241 rfl (by kernel_rfl) (by simp only [List.length_cons, List.length_nil, Tryz.ntmps241]; omega) (by simp [zb6, T.isPin]) ?_
 simp -implicitDefEqProofs only [go_sem, Tryz.results241]
 refine callF (zi2 a.name) (by simp -implicitDefEqProofs only [go_sem]) ?_
 simp -implicitDefEqProofs only [go_sem]
 refine ⟨fun h => ?_, fun h => ?_⟩
 ·rw [if_pos h] at hv
  rw [hv] at hs ⊢
  refine zdw [] [9, 11] [] (qa4 ys a.name (by simp at hs; omega)) (by simp -implicitDefEqProofs only [go_sem]) (by simp -implicitDefEqProofs only [go_sem]) (by simp -implicitDefEqProofs only [go_sem]) (by simp -implicitDefEqProofs only [go_sem]) ?_
  simp -implicitDefEqProofs only [go_sem]
  exact Or.inl rfl
 ·rw [h, if_neg (by simp)] at hv
  rw [hv] at hs ⊢
  refine zad (fun k : Nat => hd [(0, .one (.ow 0 0)), (3, .one (.bx 3 0)), (5, vI k)] [(3, [.t (.str a.name), .rn (tmS a.args)])] [(0, ⟨true, 1, (zba ys ((a.args.take k).map voS).flatten).map fun s => [.str s], 0, true⟩)]) (fun k => k <= a.args.length) (fun k => a.args.length - k) 0 (zac ?_) (Nat.zero_le _) ?_
  ·simp -implicitDefEqProofs only [go_sem]
   rfl
  ·intro k hk
   by_cases hlt : k < a.args.length
   ·have hf := zca voS a.args k hlt
    have hL := zcr ((a.args.take k).map voS).flatten ys
    have HC := H a.args[k] (List.getElem_mem hlt) (zba ys ((a.args.take k).map voS).flatten) (by omega)
    rw [<- ze4, <- zc9 voS a.args k hlt] at HC
    simp only [tmD, zab a.args[k]] at HC
    simp -implicitDefEqProofs only [go_sem, zaf, hlt, zab a.args[k]]
    refine zdw [3, 5] [20, 25] [] (HC) (by simp -implicitDefEqProofs only [go_sem]) (by simp -implicitDefEqProofs only [go_sem]) (by simp -implicitDefEqProofs only [go_sem]) (by simp -implicitDefEqProofs only [go_sem]) ?_
    simp -implicitDefEqProofs only [go_sem]
    refine ⟨k + 1, hlt, by omega, zde 0 832 ?_⟩
    simp -implicitDefEqProofs only [go_sem]
    rw [zas (by omega)]
   ·simp -implicitDefEqProofs only [go_sem, hlt]
    exact Or.inl (by rw [List.take_of_length_le (by omega)])
end Go.Proofs.YtemnhgmgeijkcaaGreat
namespace Go.Proofs.YtemnhgmgeijkcaaGreat
set_option linter.unusedSimpArgs false
set_option linter.unusedVariables false
set_option linter.unusedSectionVars false
set_option maxRecDepth 4000
open Go.RowKit
def Fm.nodes : Fm -> Nat := Fm.fold fun _ _ _ _ rs => 1 + rs.sum
theorem Fm.nodes_eq (a : Fm) : a.nodes = 1 + (a.parts.map Fm.nodes).sum := Fm.fold_eq _ a
theorem zei : ∀ a : Fm, a.nodes <= 1 + a.wt := by
 refine zcb fun o a v xs ih => ?_
 rw [Fm.nodes_eq, Fm.wt_eq]
 show 1 + (xs.map Fm.nodes).sum <= 1 + (a.wt + v.length + xs.length + (xs.map Fm.wt).sum)
 have : (xs.map Fm.nodes).sum <= xs.length + (xs.map Fm.wt).sum := by
  induction xs with
  | nil => simp
  | cons x xs ih2 =>
   have h1 := ih x (by simp)
   have h2 := ih2 fun y hy => ih y (by simp [hy])
   simp only [List.map_cons, List.sum_cons, List.length_cons]
   omega
 omega
def zgf : Fm -> Int := Fm.fold fun _ _ _ _ rs => szL 40 1 rs
theorem zvc (a : Fm) : zgf a = szL 40 1 (a.parts.map zgf) := Fm.fold_eq _ a
theorem zms : ∀ a : Fm, 1 <= zgf a /\ zgf a <= a.nodes /\ (zgf a <= 40 -> zgf a = a.nodes) := by
 refine zcb fun o a v xs ih => ?_
 rw [zvc, Fm.nodes_eq]
 show 1 <= szL 40 1 (xs.map zgf) /\ szL 40 1 (xs.map zgf) <= ((1 + (xs.map Fm.nodes).sum : Nat) : Int) /\ _
 obtain ⟨k1, k2, k3⟩ := zkc zgf Fm.nodes 40 xs 1 (by omega) ih
 refine ⟨k2, by omega, fun h => ?_⟩
 have := k3 h
 show szL 40 1 (xs.map zgf) = _
 rw [this]; show _ = ((1 + (xs.map Fm.nodes).sum : Nat) : Int); omega
theorem qgc (a : Fm) : decide (zgf a <= 40) = decide (a.nodes <= 40) := by
 obtain ⟨h1, h2, h3⟩ := zms a
 rw [decide_eq_decide]
 exact ⟨fun h => by have := h3 h; omega, fun h => by omega⟩
theorem zct {a x : Fm} (h : x ∈ a.parts) : x.wt <= a.wt := by
 have := Fm.wt_eq a
 have := zbu Fm.wt a.parts x h
 omega
theorem zok {a x : Tm} (h : x ∈ a.args) : x.wt <= a.wt := by
 have := Tm.wt_eq a
 have := zbu Tm.wt a.args x h
 omega
theorem ziz (a : Fm) : a.atom.wt <= a.wt := by have := Fm.wt_eq a; omega
set_option maxHeartbeats 400000 in
theorem zzt (a : Fm) (hs : a.wt <= 1099511627776) (H : ∀ x ∈ a.parts, FC Tryz.prog 181 [fmD x] [iD (zgf x)]) : FC Tryz.prog 181 [fmD a] [iD (zgf a)] := by
 have hl : a.parts.length <= 9223372036854775807 := by rw [Fm.wt_eq] at hs; omega
 have hn := zei a
 have hN := a.nodes_eq
 simp only [fmD, zaa]
 refine zag Tryz.call181 Tryz.func181 rfl (by kernel_rfl) (zau (by kernel_rfl)) ?_
 simp -implicitDefEqProofs only [go_sem, Tryz.results181]
 refine zad (fun p : Nat × Int => hd [(3, vI p.2), (7, vT (fmS a.parts)), (8, vI a.parts.length), (9, vI p.1)] [] []) (fun p => p.1 <= a.parts.length /\ zgf a = szL 40 p.2 ((a.parts.drop p.1).map zgf) /\ 1 <= p.2 /\ p.2 + qby Fm.nodes a.parts p.1 <= a.nodes) (fun p => a.parts.length - p.1) (0, 1) (zac ?_) ?_ ?_
 ·simp -implicitDefEqProofs only [go_sem]
 ·exact ⟨by simp, by rw [zvc]; rfl, by omega, by rw [zfc]; omega⟩
 ·intro ⟨k, n⟩ ⟨hk, hr, h1, h2⟩
  simp only at hk hr h1 h2
  by_cases hlt : k < a.parts.length
  ·have hd := ziw Fm.nodes a.parts k hlt
   obtain ⟨s1, s2, s3⟩ := zms a.parts[k]
   rw [List.drop_eq_getElem_cons hlt, List.map_cons, szL] at hr
   simp -implicitDefEqProofs only [go_sem, zaf, hlt, zaa]
   refine ⟨fun h => ?_, fun h => ?_⟩
   ·rw [hr, if_pos (by simpa using h)]
   ·refine callF (H a.parts[k] (List.getElem_mem hlt)) (by simp -implicitDefEqProofs only [go_sem, zaa]) ?_
    simp -implicitDefEqProofs only [go_sem, zaa]
    rw [if_neg (by simpa using h)] at hr
    exact ⟨(k + 1, n + zgf a.parts[k]), ⟨hlt, hr, by simp only; omega, by simp only; omega⟩, by simp only; omega, zac (by simp -implicitDefEqProofs only [go_sem]; rw [zas (by omega), zbk (by omega) (by omega)]; exact ⟨rfl, rfl⟩)⟩
  ·simp -implicitDefEqProofs only [go_sem, hlt]
   rw [hr, List.drop_of_length_le (by omega)]; rfl
theorem qia : ∀ a : Fm, a.wt <= 1099511627776 -> FC Tryz.prog 181 [fmD a] [iD (zgf a)] :=
 zcb fun o a v xs ih hs => zzt (.mk o a v xs) hs fun x hx => ih x hx (Nat.le_trans (zct (a := .mk o a v xs) hx) hs)
def mnL (most : Int) : Int -> List (Int -> Int) -> Int
 | n, [] => n
 | n, r :: rs => if n <= most then mnL most (n + r (most - n)) rs else n
theorem zj5 {α : Type} (f : α -> Int -> Int) (g : α -> Nat) (most : Int) : ∀ (xs : List α) (n : Int), 0 <= n -> (∀ x ∈ xs, ∀ m, 0 <= m -> 1 <= f x m /\ f x m <= g x /\ (f x m <= m -> f x m = g x)) -> mnL most n (xs.map f) <= n + (xs.map g).sum /\ n <= mnL most n (xs.map f) /\ (mnL most n (xs.map f) <= most -> mnL most n (xs.map f) = n + (xs.map g).sum)
 | [], n, _, _ => by simp [mnL]
 | x :: xs, n, hn, h => by
  simp only [List.map_cons, mnL, List.sum_cons]
  split
  ·obtain ⟨h1, h2, h3⟩ := h x (by simp) (most - n) (by omega)
   obtain ⟨k1, k2, k3⟩ := zj5 f g most xs (n + f x (most - n)) (by omega) fun y hy => h y (by simp [hy])
   refine ⟨by omega, by omega, fun hh => ?_⟩
   have := k3 hh
   have : f x (most - n) = g x := h3 (by omega)
   omega
  ·refine ⟨by omega, by omega, fun hh => by omega⟩
def zfl : Tm -> Int -> Int := Tm.fold fun _ _ rs m => mnL m 1 rs
theorem zut (a : Tm) (m : Int) : zfl a m = mnL m 1 (a.args.map zfl) := congrFun (Tm.fold_eq _ a) m
theorem zmx : ∀ (a : Tm) (m : Int), 0 <= m -> 1 <= zfl a m /\ zfl a m <= a.nodes /\ (zfl a m <= m -> zfl a m = a.nodes) := by
 refine zbx fun b0 xs ih m hm => ?_
 rw [zut, Tm.nodes_eq]
 show 1 <= mnL m 1 (xs.map zfl) /\ mnL m 1 (xs.map zfl) <= ((1 + (xs.map Tm.nodes).sum : Nat) : Int) /\ (mnL m 1 (xs.map zfl) <= m -> mnL m 1 (xs.map zfl) = ((1 + (xs.map Tm.nodes).sum : Nat) : Int))
 obtain ⟨k1, k2, k3⟩ := zj5 zfl Tm.nodes m xs 1 (by omega) ih
 refine ⟨k2, by omega, fun h => ?_⟩
 have := k3 h
 omega
theorem qfh (a : Tm) (m : Nat) : decide (zfl a m <= m) = decide (a.nodes <= m) := by
 obtain ⟨h1, h2, h3⟩ := zmx a m (by omega)
 rw [decide_eq_decide]
 exact ⟨fun h => by have := h3 h; omega, fun h => by omega⟩
set_option maxHeartbeats 400000 in
theorem zzz (a : Tm) (hs : a.wt <= 1099511627776) (H : ∀ x ∈ a.args, ∀ m : Int, 0 <= m -> m <= 1099511627776 -> FC Tryz.prog 281 [tmD x, iD m] [iD (zfl x m)]) (m : Int) (h0 : 0 <= m) (h1 : m <= 1099511627776) : FC Tryz.prog 281 [tmD a, iD m] [iD (zfl a m)] := by
 have hl : a.args.length <= 9223372036854775807 := by rw [Tm.wt_eq] at hs; omega
 have hn := zfh a
 have hN := a.nodes_eq
 simp only [tmD, zab]
 refine zag Tryz.call281 Tryz.func281 rfl (by kernel_rfl) (zau (by kernel_rfl)) ?_
 simp -implicitDefEqProofs only [go_sem, Tryz.results281]
 refine zad (fun p : Nat × Int => hd [(1, vI m), (2, .one (.bx 2 0)), (5, vI p.2), (6, vI p.1)] [(2, [.t (.str a.name), .t (tmS a.args)])] []) (fun p => p.1 <= a.args.length /\ zfl a m = mnL m p.2 ((a.args.drop p.1).map zfl) /\ 1 <= p.2 /\ p.2 + qby Tm.nodes a.args p.1 <= a.nodes) (fun p => a.args.length - p.1) (0, 1) (zac ?_) ?_ ?_
 ·simp -implicitDefEqProofs only [go_sem]
 ·exact ⟨by simp, by rw [zut]; rfl, by omega, by rw [zfc]; omega⟩
 ·intro ⟨k, n⟩ ⟨hk, hr, h2, h3⟩
  simp only at hk hr h2 h3
  by_cases hlt : k < a.args.length
  ·have hd := ziw Tm.nodes a.args k hlt
   rw [List.drop_eq_getElem_cons hlt, List.map_cons, mnL] at hr
   simp -implicitDefEqProofs only [go_sem, zaf, hlt, zab]
   refine ⟨fun h => ?_, fun h => ?_⟩
   ·have hle : n <= m := by simpa using h
    obtain ⟨s1, s2, s3⟩ := zmx a.args[k] (m - n) (by omega)
    rw [zbk (n := m - n) (by omega) (by omega)]
    refine callF (H a.args[k] (List.getElem_mem hlt) (m - n) (by omega) (by omega)) (by simp -implicitDefEqProofs only [go_sem, zab]) ?_
    simp -implicitDefEqProofs only [go_sem, zab]
    rw [if_pos hle] at hr
    exact ⟨(k + 1, n + zfl a.args[k] (m - n)), ⟨hlt, hr, by simp only; omega, by simp only; omega⟩, by simp only; omega, zac (by simp -implicitDefEqProofs only [go_sem]; rw [zas (by omega), zbk (by omega) (by omega)]; exact ⟨rfl, rfl⟩)⟩
   ·rw [hr, if_neg (by simpa using h)]
  ·simp -implicitDefEqProofs only [go_sem, hlt]
   rw [hr, List.drop_of_length_le (by omega)]; rfl
theorem qfo : ∀ a : Tm, a.wt <= 1099511627776 -> ∀ m : Int, 0 <= m -> m <= 1099511627776 -> FC Tryz.prog 281 [tmD a, iD m] [iD (zfl a m)] :=
 zbx fun b0 xs ih hs => zzz (.mk b0 xs) hs fun x hx => ih x hx (Nat.le_trans (zok (a := .mk b0 xs) hx) hs)
def zfp : Fm -> Int -> Int := Fm.fold fun _ _ _ _ rs m => mnL m 1 rs
theorem zuy (a : Fm) (m : Int) : zfp a m = mnL m 1 (a.parts.map zfp) := congrFun (Fm.fold_eq _ a) m
theorem zm4 : ∀ (a : Fm) (m : Int), 0 <= m -> 1 <= zfp a m /\ zfp a m <= a.nodes /\ (zfp a m <= m -> zfp a m = a.nodes) := by
 refine zcb fun b0 b1 b2 xs ih m hm => ?_
 rw [zuy, Fm.nodes_eq]
 show 1 <= mnL m 1 (xs.map zfp) /\ mnL m 1 (xs.map zfp) <= ((1 + (xs.map Fm.nodes).sum : Nat) : Int) /\ (mnL m 1 (xs.map zfp) <= m -> mnL m 1 (xs.map zfp) = ((1 + (xs.map Fm.nodes).sum : Nat) : Int))
 obtain ⟨k1, k2, k3⟩ := zj5 zfp Fm.nodes m xs 1 (by omega) ih
 refine ⟨k2, by omega, fun h => ?_⟩
 have := k3 h
 omega
theorem qe4 (a : Fm) (m : Nat) : decide (zfp a m <= m) = decide (a.nodes <= m) := by
 obtain ⟨h1, h2, h3⟩ := zm4 a m (by omega)
 rw [decide_eq_decide]
 exact ⟨fun h => by have := h3 h; omega, fun h => by omega⟩
set_option maxHeartbeats 400000 in
theorem qat (a : Fm) (hs : a.wt <= 1099511627776) (H : ∀ x ∈ a.parts, ∀ m : Int, 0 <= m -> m <= 1099511627776 -> FC Tryz.prog 179 [fmD x, iD m] [iD (zfp x m)]) (m : Int) (h0 : 0 <= m) (h1 : m <= 1099511627776) : FC Tryz.prog 179 [fmD a, iD m] [iD (zfp a m)] := by
 have hl : a.parts.length <= 9223372036854775807 := by rw [Fm.wt_eq] at hs; omega
 have hn := zei a
 have hN := a.nodes_eq
 simp only [fmD, zaa]
 refine zag Tryz.call179 Tryz.func179 rfl (by kernel_rfl) (zau (by kernel_rfl)) ?_
 simp -implicitDefEqProofs only [go_sem, Tryz.results179]
 refine zad (fun p : Nat × Int => hd [(1, vI m), (2, .one (.bx 2 0)), (5, vI p.2), (6, vI p.1)] [(2, [.t (.int .i64 a.op), .t (.str a.atom.name), .t (tmS a.atom.args), .t (.str a.var), .t (fmS a.parts)])] []) (fun p => p.1 <= a.parts.length /\ zfp a m = mnL m p.2 ((a.parts.drop p.1).map zfp) /\ 1 <= p.2 /\ p.2 + qby Fm.nodes a.parts p.1 <= a.nodes) (fun p => a.parts.length - p.1) (0, 1) (zac ?_) ?_ ?_
 ·simp -implicitDefEqProofs only [go_sem]
 ·exact ⟨by simp, by rw [zuy]; rfl, by omega, by rw [zfc]; omega⟩
 ·intro ⟨k, n⟩ ⟨hk, hr, h2, h3⟩
  simp only at hk hr h2 h3
  by_cases hlt : k < a.parts.length
  ·have hd := ziw Fm.nodes a.parts k hlt
   rw [List.drop_eq_getElem_cons hlt, List.map_cons, mnL] at hr
   simp -implicitDefEqProofs only [go_sem, zaf, hlt, zaa]
   refine ⟨fun h => ?_, fun h => ?_⟩
   ·have hle : n <= m := by simpa using h
    obtain ⟨s1, s2, s3⟩ := zm4 a.parts[k] (m - n) (by omega)
    rw [zbk (n := m - n) (by omega) (by omega)]
    refine callF (H a.parts[k] (List.getElem_mem hlt) (m - n) (by omega) (by omega)) (by simp -implicitDefEqProofs only [go_sem, zaa]) ?_
    simp -implicitDefEqProofs only [go_sem, zaa]
    rw [if_pos hle] at hr
    exact ⟨(k + 1, n + zfp a.parts[k] (m - n)), ⟨hlt, hr, by simp only; omega, by simp only; omega⟩, by simp only; omega, zac (by simp -implicitDefEqProofs only [go_sem]; rw [zas (by omega), zbk (by omega) (by omega)]; exact ⟨rfl, rfl⟩)⟩
   ·rw [hr, if_neg (by simpa using h)]
  ·simp -implicitDefEqProofs only [go_sem, hlt]
   rw [hr, List.drop_of_length_le (by omega)]; rfl
theorem qfx : ∀ a : Fm, a.wt <= 1099511627776 -> ∀ m : Int, 0 <= m -> m <= 1099511627776 -> FC Tryz.prog 179 [fmD a, iD m] [iD (zfp a m)] :=
 zcb fun b0 b1 b2 xs ih hs => qat (.mk b0 b1 b2 xs) hs fun x hx => ih x hx (Nat.le_trans (zct (a := .mk b0 b1 b2 xs) hx) hs)
end Go.Proofs.YtemnhgmgeijkcaaGreat
namespace Go.Proofs.YtemnhgmgeijkcaaGreat
set_option linter.unusedSimpArgs false
set_option linter.unusedVariables false
set_option linter.unusedSectionVars false
set_option maxRecDepth 4000
open Go.RowKit
set_option maxHeartbeats 400000 in
theorem zyi (a : Tm) (hs : a.wt <= 1099511627776) (H : ∀ x ∈ a.args, FC Tryz.prog 282 [tmD x] [iD x.depth]) : FC Tryz.prog 282 [tmD a] [iD a.depth] := by
 have hl : a.args.length <= 9223372036854775807 := by rw [Tm.wt_eq] at hs; omega
 have hn := zfh a
 have hdn := zk8 a
 have hD := a.depth_eq
 simp only [tmD, zab]
 refine zag Tryz.call282 Tryz.func282 rfl (by kernel_rfl) (zau (by kernel_rfl)) ?_
 simp -implicitDefEqProofs only [go_sem, Tryz.results282]
 refine zad (fun p : Nat × Nat => hd [(1, .one (.bx 1 0)), (3, vI p.2), (4, vI p.1)] [(1, [.t (.str a.name), .t (tmS a.args)])] []) (fun p => p.1 <= a.args.length /\ a.depth = ((a.args.drop p.1).map Tm.depth).foldl max p.2 + 1) (fun p => a.args.length - p.1) (0, 0) (zac ?_) ?_ ?_
 ·simp -implicitDefEqProofs only [go_sem]
 ·exact ⟨by simp, hD⟩
 ·intro ⟨k, n⟩ ⟨hk, hr⟩
  simp only at hk hr
  by_cases hlt : k < a.args.length
  ·rw [List.drop_eq_getElem_cons hlt, List.map_cons, List.foldl_cons] at hr
   simp -implicitDefEqProofs only [go_sem, zaf, hlt, zab]
   refine callF (H a.args[k] (List.getElem_mem hlt)) (by simp -implicitDefEqProofs only [go_sem, zab]) ?_
   simp -implicitDefEqProofs only [go_sem, zab]
   refine callF (qhf n a.args[k].depth) (by simp -implicitDefEqProofs only [go_sem, zab]) ?_
   simp -implicitDefEqProofs only [go_sem, zab]
   exact ⟨(k + 1, max n a.args[k].depth), ⟨hlt, hr⟩, by simp only; omega, zac (by simp -implicitDefEqProofs only [go_sem]; rw [zas (by omega)]; exact ⟨by congr 1; omega, rfl⟩)⟩
  ·simp -implicitDefEqProofs only [go_sem, hlt]
   rw [List.drop_of_length_le (by omega)] at hr
   simp only [List.map_nil, List.foldl_nil] at hr
   rw [hr, zas (by omega)]
theorem qaq : ∀ a : Tm, a.wt <= 1099511627776 -> FC Tryz.prog 282 [tmD a] [iD a.depth] :=
 zbx fun n xs ih hs => zyi (.mk n xs) hs fun x hx => ih x hx (Nat.le_trans (zok (a := .mk n xs) hx) hs)
theorem zu4 (a : Tm) (hs : a.wt <= 1099511627776) : FC Tryz.prog 237 [tmD a] [bD (zd7 a)] := by
 simp only [tmD, zab]
 refine zag Tryz.call237 Tryz.func237 rfl (by kernel_rfl) (zau (by kernel_rfl)) ?_
 simp -implicitDefEqProofs only [go_sem, Tryz.results237]
 refine callF (qfo a hs 30 (by omega) (by omega)) (by simp -implicitDefEqProofs only [go_sem, zab]) ?_
 simp -implicitDefEqProofs only [go_sem, zab]
 rw [show decide (zfl a 30 <= 30) = decide (a.nodes <= 30) from qfh a 30]
 refine ⟨fun h => ?_, fun h => ?_⟩
 ·refine callF (qaq a hs) (by simp -implicitDefEqProofs only [go_sem, zab]) ?_
  simp -implicitDefEqProofs only [go_sem, zab]
  rw [zd7, h, Bool.true_and]
  congr 1
  rw [decide_eq_decide]; omega
 ·rw [zd7, h]; rfl
theorem zxm (a : Tm) (H : ∀ x ∈ a.args, FC Tryz.prog 238 [tmD x] [bD x.names]) : FC Tryz.prog 238 [tmD a] [bD a.names] := by
 refine zc7 (fun hw => ?_) Tryz.call238
 have hl : a.args.length <= 9223372036854775807 := by simp only [tmD, zab] at hw; simp [zfj, wfT, zo9] at hw; exact hw.2.1
 have hN := a.names_eq
 simp only [tmD, zab]
 refine zag Tryz.call238 Tryz.func238 rfl (by kernel_rfl) (zau (by kernel_rfl)) ?_
 simp -implicitDefEqProofs only [go_sem, Tryz.results238]
 refine callF (zi2 a.name) (by simp -implicitDefEqProofs only [go_sem]) ?_
 simp -implicitDefEqProofs only [go_sem]
 refine ⟨fun h => ?_, fun h => ?_⟩
 ·rw [hN, if_pos h]
  congr 1
  rw [Bool.eq_iff_iff]; simp
 ·rw [h] at hN
  simp only [Bool.false_eq_true, if_false] at hN
  refine callF (zml a.name) (by simp -implicitDefEqProofs only [go_sem]) ?_
  simp -implicitDefEqProofs only [go_sem]
  by_cases hy : zc4 a.name = true
  ·by_cases h4 : a.args.length <= 4
   ·rw [hy, show decide (a.args.length <= 4) = true by simpa using h4, Bool.true_and, Bool.true_and] at hN
    refine ⟨fun _ => ⟨fun h => by simp at h; omega, fun _ => ?_⟩, fun h => by simp [hy] at h⟩
    refine zad (fun k : Nat => hd [(1, .one (.bx 1 0)), (3, vI k)] [(1, [.t (.str a.name), .t (tmS a.args)])] []) (fun k => k <= a.args.length /\ a.names = (a.args.drop k).all Tm.names) (fun k => a.args.length - k) 0 (zac ?_) ?_ ?_
    ·simp -implicitDefEqProofs only [go_sem]
    ·exact ⟨by simp, hN⟩
    ·intro k ⟨hk, hr⟩
     by_cases hlt : k < a.args.length
     ·rw [List.drop_eq_getElem_cons hlt, List.all_cons] at hr
      simp -implicitDefEqProofs only [go_sem, zaf, hlt, zab]
      refine callF (H a.args[k] (List.getElem_mem hlt)) (by simp -implicitDefEqProofs only [go_sem, zab]) ?_
      simp -implicitDefEqProofs only [go_sem, zab]
      refine ⟨fun h => ?_, fun h => ⟨k + 1, ⟨hlt, ?_⟩, by omega, zac (by simp -implicitDefEqProofs only [go_sem]; rw [zas (by omega)])⟩⟩
      ·rw [hr, show a.args[k].names = false by simpa using h]; rfl
      ·rw [hr, show a.args[k].names = true by simpa using h]; rfl
     ·simp -implicitDefEqProofs only [go_sem, hlt]
      rw [hr, List.drop_of_length_le (by omega)]; rfl
   ·refine ⟨fun _ => ⟨fun _ => ?_, fun h => by simp at h; omega⟩, fun h => by simp [hy] at h⟩
    rw [hN, show decide (a.args.length <= 4) = false by simpa using h4, Bool.and_false]; rfl
  ·have hy' : zc4 a.name = false := by simpa using hy
   refine ⟨fun h => by simp [hy'] at h, fun _ => ?_⟩
   rw [hN, hy']; rfl
theorem zle : ∀ a : Tm, FC Tryz.prog 238 [tmD a] [bD a.names] := zbx fun n xs ih => zxm (.mk n xs) ih
theorem zv2 (a : Tm) (hs : a.wt <= 1099511627776) : FC Tryz.prog 173 [tmD a] [bD a.good] := by
 simp only [tmD, zab]
 refine zag Tryz.call173 Tryz.func173 rfl (by kernel_rfl) (zau (by kernel_rfl)) ?_
 simp -implicitDefEqProofs only [go_sem, Tryz.results173]
 refine callF (zu4 a hs) (by simp -implicitDefEqProofs only [go_sem, zab]) ?_
 simp -implicitDefEqProofs only [go_sem, zab]
 refine ⟨fun h => ?_, fun h => ?_⟩
 ·refine callF (zle a) (by simp -implicitDefEqProofs only [go_sem, zab]) ?_
  simp -implicitDefEqProofs only [go_sem, zab]
  rw [Tm.good, h, Bool.true_and]
 ·rw [Tm.good, h, Bool.false_and]
theorem zui (a : Tm) (hs : a.wt <= 1099511627776) : FC Tryz.prog 177 [tmD a] [bD a.atomOk] := by
 have hN : a.atomOk = if (a.name == [61]) = true then decide (a.args.length = 2) && zd7 a && a.args.all Tm.names else zc4 a.name && a.good := rfl
 simp only [tmD, zab]
 refine zag Tryz.call177 Tryz.func177 rfl (by kernel_rfl) (zau (by kernel_rfl)) ?_
 simp -implicitDefEqProofs only [go_sem, Tryz.results177]
 refine ⟨fun h => ?_, fun h => ?_⟩
 ·rw [if_pos h] at hN
  by_cases h2 : a.args.length = 2
  ·have k0 : 0 < a.args.length := by omega
   have k1 : 1 < a.args.length := by omega
   have e2 : ((a.args.length : Int) == 2) = true := by simp [h2]
   have l0 : (0 : Int) < a.args.length := by omega
   have l1 : (1 : Int) < a.args.length := by omega
   rw [qaw h2, show decide (a.args.length = 2) = true by simp [h2]] at hN
   simp only [Bool.true_and] at hN
   simp only [e2, qah, zge, qj4, ze9, and_true]
   refine callF (zu4 a hs) (by simp -implicitDefEqProofs only [go_sem, zab, l0, zaf, k0]) ?_
   simp -implicitDefEqProofs only [go_sem, zab, l0, zaf, k0]
   refine ⟨fun h3 => ?_, fun h3 => ?_⟩
   ·refine callF (zle a.args[0]) (by simp -implicitDefEqProofs only [go_sem, zab, l1, zaf, k1]) ?_
    simp -implicitDefEqProofs only [go_sem, zab, l1, zaf, k1]
    refine ⟨fun h4 => ?_, fun h4 => ?_⟩
    ·refine callF (zle a.args[1]) (by simp -implicitDefEqProofs only [go_sem, zab]) ?_
     simp -implicitDefEqProofs only [go_sem, zab]
     rw [hN, h3, h4]; rfl
    ·rw [hN, h3, h4]; rfl
   ·rw [hN, h3]; rfl
  ·have e2 : ((a.args.length : Int) == 2) = false := by simp; omega
   simp only [e2, qah, qkv, zge, ze9, and_true, true_and, qlt]
   rw [hN, show decide (a.args.length = 2) = false by simpa using h2]; rfl
 ·rw [h] at hN
  simp only [Bool.false_eq_true, if_false] at hN
  refine callF (zml a.name) (by simp -implicitDefEqProofs only [go_sem]) ?_
  simp -implicitDefEqProofs only [go_sem]
  refine ⟨fun h3 => ?_, fun h3 => ?_⟩
  ·refine callF (zv2 a hs) (by simp -implicitDefEqProofs only [go_sem, zab]) ?_
   simp -implicitDefEqProofs only [go_sem, zab]
   rw [hN, h3, Bool.true_and]
  ·rw [hN, h3, Bool.false_and]
theorem zes (a : Tm) : FC Tryz.prog 283 [tmD a] [bD a.none] := by
 simp only [tmD, zab]
 refine zag Tryz.call283 Tryz.func283 rfl (by kernel_rfl) (zau (by kernel_rfl)) ?_
 simp -implicitDefEqProofs only [go_sem, Tryz.results283]
 unfold Tm.none
 refine ⟨fun h => ?_, fun h => ?_⟩
 ·rw [h, Bool.true_and]
  congr 1
  rw [Bool.eq_iff_iff]; simp
 ·rw [h]; rfl
def Fm.here (f : Fm) : Bool :=
 if (f.op == 1 || f.op == 2) = true then decide (f.parts.length = 0) && f.atom.none && (f.var == [])
 else if (f.op == 3) = true then decide (f.parts.length = 0) && f.atom.atomOk && (f.var == [])
 else if (f.op == 4) = true then decide (f.parts.length = 1) && f.atom.none && (f.var == [])
 else if zop f.op = true then decide (f.parts.length = 2) && f.atom.none && (f.var == [])
 else if isQ f.op = true then decide (f.parts.length = 1) && f.atom.none && zbc f.var
 else false
theorem zo6 (n m : Nat) : ((n : Int) == (m : Int)) = decide (n = m) := by
 rw [Bool.eq_iff_iff]; simp only [beq_iff_eq, decide_eq_true_eq]; omega
theorem zs3 (n m : Nat) : ((n : Int) != (m : Int)) = !decide (n = m) := by
 rw [bne, zo6]
theorem zwj (o : Int) : o = 1 \/ o = 2 \/ o = 3 \/ o = 4 \/ o = 5 \/ o = 6 \/ o = 7 \/ o = 8 \/ o = 9 \/ (o ≠ 1 /\ o ≠ 2 /\ o ≠ 3 /\ o ≠ 4 /\ o ≠ 5 /\ o ≠ 6 /\ o ≠ 7 /\ o ≠ 8 /\ o ≠ 9) := by omega
set_option maxHeartbeats 4000000 in
theorem qgn (f : Fm) (hs : f.wt <= 1099511627776) : FC Tryz.prog 242 [fmD f] [bD f.here] := by
 obtain ⟨o, a, v, ps⟩ := f
 have ha : a.wt <= 1099511627776 := Nat.le_trans (ziz (.mk o a v ps)) hs
 have e0 : ((ps.length : Int) == 0) = decide (ps.length = 0) := zo6 _ 0
 have e1 : ((ps.length : Int) == 1) = decide (ps.length = 1) := zo6 _ 1
 have e2 : ((ps.length : Int) == 2) = decide (ps.length = 2) := zo6 _ 2
 rcases zwj o with rfl | rfl | rfl | rfl | rfl | rfl | rfl | rfl | rfl | ⟨n1, n2, n3, n4, n5, n6, n7, n8, n9⟩
 ·have hN : Fm.here (.mk 1 a v ps) = (decide (ps.length = 0) && a.none && (v == [])) := rfl
  simp only [fmD, zaa, Fm.op, Fm.atom, Fm.var, Fm.parts]
  refine zag Tryz.call242 Tryz.func242 rfl (by kernel_rfl) (zau (by kernel_rfl)) ?_
  simp -implicitDefEqProofs only [go_sem, Tryz.results242]
  simp only [e0]
  refine ⟨fun h => ?_, fun h => ?_⟩
  ·refine callF (zes a) (by simp -implicitDefEqProofs only [go_sem, zab]) ?_
   simp -implicitDefEqProofs only [go_sem, zab]
   refine ⟨fun h1 => ?_, fun h1 => ?_⟩
   ·rw [hN, h, h1]; rfl
   ·rw [hN, h, h1]; rfl
  ·rw [hN, h]; rfl
 ·have hN : Fm.here (.mk 2 a v ps) = (decide (ps.length = 0) && a.none && (v == [])) := rfl
  simp only [fmD, zaa, Fm.op, Fm.atom, Fm.var, Fm.parts]
  refine zag Tryz.call242 Tryz.func242 rfl (by kernel_rfl) (zau (by kernel_rfl)) ?_
  simp -implicitDefEqProofs only [go_sem, Tryz.results242]
  simp only [e0]
  refine ⟨fun h => ?_, fun h => ?_⟩
  ·refine callF (zes a) (by simp -implicitDefEqProofs only [go_sem, zab]) ?_
   simp -implicitDefEqProofs only [go_sem, zab]
   refine ⟨fun h1 => ?_, fun h1 => ?_⟩
   ·rw [hN, h, h1]; rfl
   ·rw [hN, h, h1]; rfl
  ·rw [hN, h]; rfl
 ·have hN : Fm.here (.mk 3 a v ps) = (decide (ps.length = 0) && a.atomOk && (v == [])) := rfl
  simp only [fmD, zaa, Fm.op, Fm.atom, Fm.var, Fm.parts]
  refine zag Tryz.call242 Tryz.func242 rfl (by kernel_rfl) (zau (by kernel_rfl)) ?_
  simp -implicitDefEqProofs only [go_sem, Tryz.results242]
  simp only [e0]
  refine ⟨fun h => ?_, fun h => ?_⟩
  ·refine callF (zui a ha) (by simp -implicitDefEqProofs only [go_sem, zab]) ?_
   simp -implicitDefEqProofs only [go_sem, zab]
   refine ⟨fun h1 => ?_, fun h1 => ?_⟩
   ·rw [hN, h, h1]; rfl
   ·rw [hN, h, h1]; rfl
  ·rw [hN, h]; rfl
 ·have hN : Fm.here (.mk 4 a v ps) = (decide (ps.length = 1) && a.none && (v == [])) := rfl
  simp only [fmD, zaa, Fm.op, Fm.atom, Fm.var, Fm.parts]
  refine zag Tryz.call242 Tryz.func242 rfl (by kernel_rfl) (zau (by kernel_rfl)) ?_
  simp -implicitDefEqProofs only [go_sem, Tryz.results242]
  simp only [e1]
  refine ⟨fun h => ?_, fun h => ?_⟩
  ·refine callF (zes a) (by simp -implicitDefEqProofs only [go_sem, zab]) ?_
   simp -implicitDefEqProofs only [go_sem, zab]
   refine ⟨fun h1 => ?_, fun h1 => ?_⟩
   ·rw [hN, h, h1]; rfl
   ·rw [hN, h, h1]; rfl
  ·rw [hN, h]; rfl
 ·have hN : Fm.here (.mk 5 a v ps) = (decide (ps.length = 2) && a.none && (v == [])) := rfl
  simp only [fmD, zaa, Fm.op, Fm.atom, Fm.var, Fm.parts]
  refine zag Tryz.call242 Tryz.func242 rfl (by kernel_rfl) (zau (by kernel_rfl)) ?_
  simp -implicitDefEqProofs only [go_sem, Tryz.results242]
  simp only [e2]
  refine ⟨fun h => ?_, fun h => ?_⟩
  ·refine callF (zes a) (by simp -implicitDefEqProofs only [go_sem, zab]) ?_
   simp -implicitDefEqProofs only [go_sem, zab]
   refine ⟨fun h1 => ?_, fun h1 => ?_⟩
   ·rw [hN, h, h1]; rfl
   ·rw [hN, h, h1]; rfl
  ·rw [hN, h]; rfl
 ·have hN : Fm.here (.mk 6 a v ps) = (decide (ps.length = 2) && a.none && (v == [])) := rfl
  simp only [fmD, zaa, Fm.op, Fm.atom, Fm.var, Fm.parts]
  refine zag Tryz.call242 Tryz.func242 rfl (by kernel_rfl) (zau (by kernel_rfl)) ?_
  simp -implicitDefEqProofs only [go_sem, Tryz.results242]
  simp only [e2]
  refine ⟨fun h => ?_, fun h => ?_⟩
  ·refine callF (zes a) (by simp -implicitDefEqProofs only [go_sem, zab]) ?_
   simp -implicitDefEqProofs only [go_sem, zab]
   refine ⟨fun h1 => ?_, fun h1 => ?_⟩
   ·rw [hN, h, h1]; rfl
   ·rw [hN, h, h1]; rfl
  ·rw [hN, h]; rfl
 ·have hN : Fm.here (.mk 7 a v ps) = (decide (ps.length = 2) && a.none && (v == [])) := rfl
  simp only [fmD, zaa, Fm.op, Fm.atom, Fm.var, Fm.parts]
  refine zag Tryz.call242 Tryz.func242 rfl (by kernel_rfl) (zau (by kernel_rfl)) ?_
  simp -implicitDefEqProofs only [go_sem, Tryz.results242]
  simp only [e2]
  refine ⟨fun h => ?_, fun h => ?_⟩
  ·refine callF (zes a) (by simp -implicitDefEqProofs only [go_sem, zab]) ?_
   simp -implicitDefEqProofs only [go_sem, zab]
   refine ⟨fun h1 => ?_, fun h1 => ?_⟩
   ·rw [hN, h, h1]; rfl
   ·rw [hN, h, h1]; rfl
  ·rw [hN, h]; rfl
 ·have hN : Fm.here (.mk 8 a v ps) = (decide (ps.length = 1) && a.none && zbc v) := rfl
  simp only [fmD, zaa, Fm.op, Fm.atom, Fm.var, Fm.parts]
  refine zag Tryz.call242 Tryz.func242 rfl (by kernel_rfl) (zau (by kernel_rfl)) ?_
  simp -implicitDefEqProofs only [go_sem, Tryz.results242]
  simp only [e1]
  refine ⟨fun h => ?_, fun h => ?_⟩
  ·refine callF (zes a) (by simp -implicitDefEqProofs only [go_sem, zab]) ?_
   simp -implicitDefEqProofs only [go_sem, zab]
   refine ⟨fun h1 => ?_, fun h1 => ?_⟩
   ·refine callF (zi2 v) (by simp -implicitDefEqProofs only [go_sem]) ?_
    simp -implicitDefEqProofs only [go_sem]
    rw [hN, h, h1]; rfl
   ·rw [hN, h, h1]; rfl
  ·rw [hN, h]; rfl
 ·have hN : Fm.here (.mk 9 a v ps) = (decide (ps.length = 1) && a.none && zbc v) := rfl
  simp only [fmD, zaa, Fm.op, Fm.atom, Fm.var, Fm.parts]
  refine zag Tryz.call242 Tryz.func242 rfl (by kernel_rfl) (zau (by kernel_rfl)) ?_
  simp -implicitDefEqProofs only [go_sem, Tryz.results242]
  simp only [e1]
  refine ⟨fun h => ?_, fun h => ?_⟩
  ·refine callF (zes a) (by simp -implicitDefEqProofs only [go_sem, zab]) ?_
   simp -implicitDefEqProofs only [go_sem, zab]
   refine ⟨fun h1 => ?_, fun h1 => ?_⟩
   ·refine callF (zi2 v) (by simp -implicitDefEqProofs only [go_sem]) ?_
    simp -implicitDefEqProofs only [go_sem]
    rw [hN, h, h1]; rfl
   ·rw [hN, h, h1]; rfl
  ·rw [hN, h]; rfl
 ·have hN : Fm.here (.mk o a v ps) = false := by simp [Fm.here, zop, isQ, Fm.op, *]
  have f1 : (o == 1) = false := by simpa using n1
  have f2 : (o == 2) = false := by simpa using n2
  have f3 : (o == 3) = false := by simpa using n3
  have f4 : (o == 4) = false := by simpa using n4
  have f5 : (o == 5) = false := by simpa using n5
  have f6 : (o == 6) = false := by simpa using n6
  have f7 : (o == 7) = false := by simpa using n7
  have f8 : (o == 8) = false := by simpa using n8
  have f9 : (o == 9) = false := by simpa using n9
  simp only [fmD, zaa, Fm.op, Fm.atom, Fm.var, Fm.parts]
  refine zag Tryz.call242 Tryz.func242 rfl (by kernel_rfl) (zau (by kernel_rfl)) ?_
  simp -implicitDefEqProofs only [go_sem, Tryz.results242, f1, f2, f3, f4, f5, f6, f7, f8, f9]
  rw [hN]
def Fm.forms : Fm -> Bool := Fm.fold fun o a v ps rs => (Fm.mk o a v ps).here && rs.all id
theorem Fm.forms_eq (f : Fm) : f.forms = (f.here && f.parts.all Fm.forms) := by
 unfold Fm.forms
 rw [Fm.fold_eq]
 simp only [List.all_map, Fm.eta]
 rfl
theorem zwz (a : Fm) (hs : a.wt <= 1099511627776) (H : ∀ x ∈ a.parts, FC Tryz.prog 180 [fmD x] [bD x.forms]) : FC Tryz.prog 180 [fmD a] [bD a.forms] := by
 have hl : a.parts.length <= 9223372036854775807 := by rw [Fm.wt_eq] at hs; omega
 have hN := a.forms_eq
 simp only [fmD, zaa]
 refine zag Tryz.call180 Tryz.func180 rfl (by kernel_rfl) (zau (by kernel_rfl)) ?_
 simp -implicitDefEqProofs only [go_sem, Tryz.results180]
 refine callF (qgn a hs) (by simp -implicitDefEqProofs only [go_sem, zaa]) ?_
 simp -implicitDefEqProofs only [go_sem, zaa]
 refine ⟨fun h => ?_, fun h => ?_⟩
 ·rw [hN, show a.here = false by simpa using h]; rfl
 ·rw [show a.here = true by simpa using h, Bool.true_and] at hN
  refine zad (fun k : Nat => hd [(1, .one (.bx 1 0)), (3, vI k)] [(1, [.t (.int .i64 a.op), .t (.str a.atom.name), .t (tmS a.atom.args), .t (.str a.var), .t (fmS a.parts)])] []) (fun k => k <= a.parts.length /\ a.forms = (a.parts.drop k).all Fm.forms) (fun k => a.parts.length - k) 0 (zac ?_) ?_ ?_
  ·simp -implicitDefEqProofs only [go_sem]
  ·exact ⟨by simp, hN⟩
  ·intro k ⟨hk, hr⟩
   by_cases hlt : k < a.parts.length
   ·rw [List.drop_eq_getElem_cons hlt, List.all_cons] at hr
    simp -implicitDefEqProofs only [go_sem, zaf, hlt, zaa]
    refine callF (H a.parts[k] (List.getElem_mem hlt)) (by simp -implicitDefEqProofs only [go_sem, zaa]) ?_
    simp -implicitDefEqProofs only [go_sem, zaa]
    refine ⟨fun h => ?_, fun h => ⟨k + 1, ⟨hlt, ?_⟩, by omega, zac (by simp -implicitDefEqProofs only [go_sem]; rw [zas (by omega)])⟩⟩
    ·rw [hr, show a.parts[k].forms = false by simpa using h]; rfl
    ·rw [hr, show a.parts[k].forms = true by simpa using h]; rfl
   ·simp -implicitDefEqProofs only [go_sem, hlt]
    rw [hr, List.drop_of_length_le (by omega)]; rfl
theorem qek : ∀ a : Fm, a.wt <= 1099511627776 -> FC Tryz.prog 180 [fmD a] [bD a.forms] :=
 zcb fun o a v xs ih hs => zwz (.mk o a v xs) hs fun x hx => ih x hx (Nat.le_trans (zct (a := .mk o a v xs) hx) hs)
def Fm.good (a : Fm) : Bool := decide (a.nodes <= 40) && a.forms
theorem zt7 (a : Fm) (hs : a.wt <= 1099511627776) : FC Tryz.prog 114 [fmD a] [bD a.good] := by
 simp only [fmD, zaa]
 refine zag Tryz.call114 Tryz.func114 rfl (by kernel_rfl) (zau (by kernel_rfl)) ?_
 simp -implicitDefEqProofs only [go_sem, Tryz.results114]
 refine callF (qfx a hs 40 (by omega) (by omega)) (by simp -implicitDefEqProofs only [go_sem, zaa]) ?_
 simp -implicitDefEqProofs only [go_sem, zaa]
 rw [show decide (zfp a 40 <= 40) = decide (a.nodes <= 40) from qe4 a 40]
 refine ⟨fun h => ?_, fun h => ?_⟩
 ·refine callF (qek a hs) (by simp -implicitDefEqProofs only [go_sem, zaa]) ?_
  simp -implicitDefEqProofs only [go_sem, zaa]
  rw [Fm.good, h, Bool.true_and]
 ·rw [Fm.good, h, Bool.false_and]
end Go.Proofs.YtemnhgmgeijkcaaGreat
