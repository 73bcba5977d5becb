/-
  The walk over plain data, and contracts of functions of the program and of its laws.
  Conditions: those that each theorem names.
-/
import Derived.Test.YtemnhgmgeijkcaaGreatQO4
import Derived.Sort.OwnSorted
import Derived.Sort.KeysCollected
import Derived.Sort.Walk0
import Derived.Laws.AppendOwn
import Derived.Shelf.Sort.Plain
import Derived.Shelf.Slices.In.SortNone
import Derived.Shelf.Slices.CompactS
import Derived.Lib.SliceRun
namespace Go.Proofs.YtemnhgmgeijkcaaGreat
set_option linter.unusedSimpArgs false
set_option linter.unusedVariables false
set_option linter.unusedSectionVars false
set_option maxRecDepth 4000
open Go.RowKit
set_option maxHeartbeats 400000 in
theorem zhw (xs : List Fm) (H : ∀ x ∈ xs, ∀ l : Int, 0 <= l -> l <= 1048576 -> FC Tryz.prog 12 [fmD x, iD l] [iD (szR x.wt l)]) (l : Int) (h0 : 0 <= l) (h1 : l <= 1048576) :
  FC Tryz.prog 58 [.one (fmS xs), iD l] [iD (szR (zb7 xs) l)] := by
 refine zdx (fun hw => ?_) Tryz.call58
 have hl : xs.length <= 9223372036854775807 := by simpa [zhb, wfT] using hw.1.1
 refine zah Tryz.call58 Tryz.func58 rfl (by kernel_rfl) (zat (by kernel_rfl)) ?_
 simp -implicitDefEqProofs only [go_sem, Tryz.results58]
 rw [zbl (by omega) (by omega)]
 have hW : zb7 xs = xs.length + (xs.map Fm.wt).sum := rfl
 refine ⟨fun h => ?_, fun h => ?_⟩
 ·rw [zd9 (by simp at h; omega)]
 ·have hlen : (xs.length : Int) <= l := by simp at h; omega
  refine zaf (fun k : Nat => hd [(0, vT (fmS xs)), (1, vI (l - xs.length - zrk Fm.wt xs k)), (5, vI k)] [] []) (fun k => k <= xs.length /\ 0 <= l - xs.length - zrk Fm.wt xs k) (fun k => xs.length - k) 0 (zac ?_) ?_ ?_
  ·simp -implicitDefEqProofs only [go_sem]
   simp [zg1]
  ·simpa [zg1] using hlen
  ·intro k ⟨hk, hp⟩
   by_cases hlt : k < xs.length
   ·have hs := zpi Fm.wt xs k hlt
    have hs2 := zxv Fm.wt xs (k + 1)
    simp -implicitDefEqProofs only [go_sem, List.length_map, zad, hlt, zaa, zab]
    refine callF (H xs[k] (List.getElem_mem hlt) (l - xs.length - zrk Fm.wt xs k) hp (by omega)) (by simp -implicitDefEqProofs only [go_sem, zaa, zab]) ?_
    simp -implicitDefEqProofs only [go_sem, zaa, zab]
    refine ⟨fun h => ?_, fun h => ?_⟩
    ·have := zgr hp (by simpa using h)
     rw [zd9 (by omega)]
    ·obtain ⟨h2, h3⟩ := zfp (by simpa using h)
     rw [zav (by omega)]
     exact ⟨k + 1, ⟨hlt, by omega⟩, by omega, zac (by simp -implicitDefEqProofs only [go_sem]; rw [h3]; congr 1; omega)⟩
   ·simp -implicitDefEqProofs only [go_sem, List.length_map, hlt]
    have hall := zsf Fm.wt xs k (by omega)
    rw [hall, zny (by omega)]; congr 1; omega
set_option maxHeartbeats 400000 in
theorem zhx (xs : List Fm) (H : ∀ x ∈ xs, FC Tryz.prog 15 [fmD x] [fmD x]) (hs : xs.length <= 1048576) :
  FC Tryz.prog 62 [.one (fmS xs)] [.one (fmS xs)] := by
 refine zdx (fun hw => ?_) Tryz.call62
 refine zah Tryz.call62 Tryz.func62 rfl (by kernel_rfl) (zat (by kernel_rfl)) ?_
 simp -implicitDefEqProofs only [go_sem, Tryz.results62]
 refine qkl (by simp -implicitDefEqProofs only [go_sem]; omega) ?_
 simp -implicitDefEqProofs only [go_sem]
 refine zaf (fun k : Nat => hd [(0, vT (fmS xs)), (3, .one (.ow 224 0)), (4, vI k)] [] [(224, ⟨true, 5, (xs.take k).map fmC ++ List.replicate (xs.length - k) [T.int .i64 0, T.str [], T.sl 2 [], T.str [], T.sl 5 []], 0, true⟩)]) (fun k => k <= xs.length) (fun k => xs.length - k) 0 (zac ?_) ?_ ?_
 ·simp -implicitDefEqProofs only [go_sem]
  simp
 ·simp
 ·intro k hk
  by_cases hlt : k < xs.length
  ·have hlen : ((xs.take k).map fmC ++ List.replicate (xs.length - k) [T.int .i64 0, T.str [], T.sl 2 [], T.str [], T.sl 5 []]).length = xs.length := by simp; omega
   have hlt2 : k < k + (xs.length - k) := by omega
   simp -implicitDefEqProofs only [go_sem, List.length_map, zad, hlt, zaa, zab]
   refine callF (H xs[k] (List.getElem_mem hlt)) (by simp -implicitDefEqProofs only [go_sem, zaa, zab, hlen, hlt, List.length_append, List.length_map, List.length_take, List.length_replicate, Nat.min_eq_left hk, hlt2]) ?_
   simp -implicitDefEqProofs only [go_sem, zaa, zab, hlen, hlt, List.length_append, List.length_map, List.length_take, List.length_replicate, Nat.min_eq_left hk, hlt2]
   refine zj9 (by simp -implicitDefEqProofs only [go_sem]; simp) ?_
   simp -implicitDefEqProofs only [go_sem]
   rw [zav (by omega)]
   refine ⟨k + 1, by omega, by omega, zac ?_⟩
   simp -implicitDefEqProofs only [go_sem]
   have hf := zgz ((xs.take k).map fmC) xs.length k [T.int .i64 0, T.str [], T.sl 2 [], T.str [], T.sl 5 []] (fmC xs[k]) (by simp; omega) hlt (by simp [zaa, zab])
   simp only [zaa, zab] at hf
   rw [hf, List.take_succ_eq_append_getElem hlt, List.map_append, List.map_singleton]
   simp only [zaa, zab]
  ·simp -implicitDefEqProofs only [go_sem, List.length_map, hlt]
   simp [List.take_of_length_le (show xs.length <= k by omega), show xs.length - k = 0 by omega]
set_option maxHeartbeats 400000 in
theorem zhi (xs ys : List Fm) (H : ∀ x ∈ xs, ∀ y, FC Tryz.prog 18 [fmD x, fmD y] [bD (same x y)]) :
  FC Tryz.prog 73 [.one (fmS xs), .one (fmS ys)] [bD (same xs ys)] := by
 refine zdx (fun hw => ?_) Tryz.call73
 have hl : xs.length <= 9223372036854775807 := by simpa [zhb, wfT] using hw.1.1
 have hl2 : ys.length <= 9223372036854775807 := by simpa [zhb, wfT] using hw.2.1.1
 refine zah Tryz.call73 Tryz.func73 rfl (by kernel_rfl) (zat (by kernel_rfl)) ?_
 simp -implicitDefEqProofs only [go_sem, Tryz.results73]
 refine ⟨fun h => ?_, fun h => ?_⟩
 ·rw [zc5.2 (by rintro rfl; simp at h)]
 ·have hlen : xs.length = ys.length := by simp at h; omega
  refine zaf (fun k : Nat => hd [(0, vT (fmS xs)), (1, vT (fmS ys)), (4, vB false), (5, vI k)] [] []) (fun k => k <= xs.length /\ same xs ys = same (xs.drop k) (ys.drop k)) (fun k => xs.length - k) 0 (zac ?_) ?_ ?_
  ·simp -implicitDefEqProofs only [go_sem]
  ·simp
  ·intro k ⟨hk, hr⟩
   by_cases hlt : k < xs.length
   ·have hk2 : k < ys.length := by omega
    simp -implicitDefEqProofs only [go_sem, List.length_map, hlt]
    refine drawn (by kernel_rfl) ?_
    simp -implicitDefEqProofs only [go_sem, List.length_map, zad, hlt, hk2, zaa, zab]
    refine zan (H xs[k] (List.getElem_mem hlt) ys[k]) (by simp -implicitDefEqProofs only [go_sem, zaa, zab]) ?_
    simp -implicitDefEqProofs only [go_sem, zaa, zab]
    refine ⟨by kernel_rfl, fun h => ?_, fun h => ?_⟩
    ·rw [hr, List.drop_eq_getElem_cons hlt, List.drop_eq_getElem_cons hk2, zd7, show same xs[k] ys[k] = false by simpa using h]; rfl
    ·rw [List.drop_eq_getElem_cons hlt, List.drop_eq_getElem_cons hk2, zd7, show same xs[k] ys[k] = true by simpa using h, Bool.true_and] at hr
     rw [zav (by omega)]
     exact ⟨k + 1, ⟨by omega, hr⟩, by omega, zac (by simp -implicitDefEqProofs only [go_sem])⟩
   ·simp -implicitDefEqProofs only [go_sem, List.length_map, hlt]
    rw [hr, List.drop_of_length_le (by omega), List.drop_of_length_le (by omega), zhh]
set_option maxHeartbeats 400000 in
theorem zpq (a : Fm) (H : ∀ l : Int, 0 <= l -> l <= 1048576 -> FC Tryz.prog 58 [.one (fmS a.parts), iD l] [iD (szR (zb7 a.parts) l)]) (l : Int) (h0 : 0 <= l) (h1 : l <= 1048576) :
  FC Tryz.prog 12 [fmD a, iD l] [iD (szR a.wt l)] := by
 refine zdx (fun hw => ?_) Tryz.call12
 simp only [fmD, zaa, zab] at hw ⊢
 have hW := a.wt_eq
 have hls : a.var.length <= 9223372036854775807 /\ True := by simp [zhb, wfT, znz] at hw; simp [hw]
 refine zah Tryz.call12 Tryz.func12 rfl (by kernel_rfl) (zat (by kernel_rfl)) ?_
 simp -implicitDefEqProofs only [go_sem, Tryz.results12]
 refine callF (qcz a.atom l (by omega) (by omega)) (by simp -implicitDefEqProofs only [go_sem, zaa, zab, zab]) ?_
 simp -implicitDefEqProofs only [go_sem, zaa, zab, zab]
 refine ⟨fun h1 => ?_, fun h1 => ?_⟩
 ·have := zgr (by omega) (show szR a.atom.wt l < 0 by simpa using h1)
  rw [zd9 (by have hu0 : zb7 a.parts = a.parts.length + (a.parts.map Fm.wt).sum := rfl;  omega)]
 obtain ⟨k1, j1⟩ := zfp (show ¬ szR a.atom.wt l < 0 by simpa using h1)
 rw [zbl (by omega) (by omega)]
 refine ⟨fun h2 => ?_, fun h2 => ?_⟩
 ·rw [zd9 (by simp at h2; have hu0 : zb7 a.parts = a.parts.length + (a.parts.map Fm.wt).sum := rfl;  omega)]
 have k2 : (a.var.length : Int) <= (szR a.atom.wt l) := by simp at h2; omega
 refine callF (H ((szR a.atom.wt l) - (a.var.length : Int)) (by omega) (by omega)) (by simp -implicitDefEqProofs only [go_sem, zaa, zab]) ?_
 simp -implicitDefEqProofs only [go_sem, zaa, zab]
 refine ⟨fun h3 => ?_, fun h3 => ?_⟩
 ·have := zgr (by omega) (show szR (zb7 a.parts) ((szR a.atom.wt l) - (a.var.length : Int)) < 0 by simpa using h3)
  rw [zd9 (by have hu0 : zb7 a.parts = a.parts.length + (a.parts.map Fm.wt).sum := rfl;  omega)]
 obtain ⟨k3, j3⟩ := zfp (show ¬ szR (zb7 a.parts) ((szR a.atom.wt l) - (a.var.length : Int)) < 0 by simpa using h3)
 rw [show szR a.wt l = l - a.wt from zny (by have hu0 : zb7 a.parts = a.parts.length + (a.parts.map Fm.wt).sum := rfl;  omega)]; exact zsu (by have hu0 : zb7 a.parts = a.parts.length + (a.parts.map Fm.wt).sum := rfl;  omega)
set_option maxHeartbeats 400000 in
theorem zpx (a : Fm) (H : FC Tryz.prog 62 [.one (fmS a.parts)] [.one (fmS a.parts)]) (hs : a.wt <= 1048576) : FC Tryz.prog 15 [fmD a] [fmD a] := by
 have hW := a.wt_eq
 simp only [fmD, zaa, zab]
 refine zah Tryz.call15 Tryz.func15 rfl (by kernel_rfl) (zat (by kernel_rfl)) ?_
 simp -implicitDefEqProofs only [go_sem, Tryz.results15]
 refine callF (qc9 a.atom (by have hu0 : zb7 a.parts = a.parts.length + (a.parts.map Fm.wt).sum := rfl;  omega)) (by simp -implicitDefEqProofs only [go_sem, zaa, zab, zab]) ?_
 simp -implicitDefEqProofs only [go_sem, zaa, zab, zab]
 refine callF (H) (by simp -implicitDefEqProofs only [go_sem, zaa, zab]) ?_
 simp -implicitDefEqProofs only [go_sem, zaa, zab]
set_option maxHeartbeats 400000 in
theorem zps (a b : Fm) (H : FC Tryz.prog 73 [.one (fmS a.parts), .one (fmS b.parts)] [bD (same a.parts b.parts)]) : FC Tryz.prog 18 [fmD a, fmD b] [bD (same a b)] := by
 simp only [fmD, zaa, zab]
 refine zah Tryz.call18 Tryz.func18 rfl (by kernel_rfl) (zat (by kernel_rfl)) ?_
 simp -implicitDefEqProofs only [go_sem, Tryz.results18]
 refine ⟨fun h1 => ?_, fun h1 => ?_⟩
 ·rw [zc5.2 (by rintro rfl; simp [zbn] at h1)]
 refine callF (qeh a.atom b.atom) (by simp -implicitDefEqProofs only [go_sem, zaa, zab, zab]) ?_
 simp -implicitDefEqProofs only [go_sem, zaa, zab, zab]
 refine ⟨fun h2 => ?_, fun h2 => ?_⟩
 ·rw [zc5.2 (by rintro rfl; simp [zbn] at h2)]
 refine ⟨fun h3 => ?_, fun h3 => ?_⟩
 ·rw [zc5.2 (by rintro rfl; simp [zbn] at h3)]
 refine callF (H) (by simp -implicitDefEqProofs only [go_sem, zaa, zab]) ?_
 simp -implicitDefEqProofs only [go_sem, zaa, zab]
 refine ⟨fun h4 => ?_, fun h4 => ?_⟩
 ·rw [zc5.2 (by rintro rfl; simp [zbn] at h4)]
 rw [zcc.2 (by cases a; cases b; simp [zcc, Fm.op, Fm.atom, Fm.var, Fm.parts] at h1 h2 h3 h4 ⊢; simp [h1, h2, h3, h4])]
theorem zrz : ∀ a : Fm, ∀ l : Int, 0 <= l -> l <= 1048576 -> FC Tryz.prog 12 [fmD a, iD l] [iD (szR a.wt l)] :=
 zce fun b0 b1 b2 xs ih l h0 h1 => zpq (.mk b0 b1 b2 xs) (fun l h0 h1 => zhw xs ih l h0 h1) l h0 h1
theorem ziq (xs : List Fm) (l : Int) (h0 : 0 <= l) (h1 : l <= 1048576) : FC Tryz.prog 58 [.one (fmS xs), iD l] [iD (szR (zb7 xs) l)] := zhw xs (fun x _ => zrz x) l h0 h1
theorem zr8 : ∀ a : Fm, a.wt <= 1048576 -> FC Tryz.prog 15 [fmD a] [fmD a] := by
 refine zce fun b0 b1 b2 xs ih hs => ?_
 have hW := Fm.wt_eq (.mk b0 b1 b2 xs)
 simp only [Fm.op, Fm.atom, Fm.var, Fm.parts] at hW
 refine zpx _ (zhx xs (fun x hx => ih x hx ?_) (by omega)) hs
 have := zb2 Fm.wt xs x hx
 omega
theorem zi1 (xs : List Fm) (hs : zb7 xs <= 1048576) : FC Tryz.prog 62 [.one (fmS xs)] [.one (fmS xs)] :=
 zhx xs (fun x hx => zr8 x (by have := zb2 Fm.wt xs x hx; unfold zb7 at hs; omega)) (by unfold zb7 at hs; omega)
theorem zq3 : ∀ a b : Fm, FC Tryz.prog 18 [fmD a, fmD b] [bD (same a b)] :=
 zce fun b0 b1 b2 xs ih b => zps (.mk b0 b1 b2 xs) b (zhi xs b.parts ih)
theorem ziw (xs ys : List Fm) : FC Tryz.prog 73 [.one (fmS xs), .one (fmS ys)] [bD (same xs ys)] := zhi xs ys fun x _ => zq3 x
set_option maxHeartbeats 400000 in
theorem zpw (a : Sq) (l : Int) (h0 : 0 <= l) (h1 : l <= 1048576) :
  FC Tryz.prog 30 [sqD a, iD l] [iD (szR a.wt l)] := by
 refine zdx (fun hw => ?_) Tryz.call30
 simp only [sqD, zak] at hw ⊢
 have hW := a.wt_eq
 have hls : True := by simp [zhb, wfT, znz] at hw; simp [hw]
 refine zah Tryz.call30 Tryz.func30 rfl (by kernel_rfl) (zat (by kernel_rfl)) ?_
 simp -implicitDefEqProofs only [go_sem, Tryz.results30]
 refine callF (ziq a.left l (by omega) (by omega)) (by simp -implicitDefEqProofs only [go_sem, zak]) ?_
 simp -implicitDefEqProofs only [go_sem, zak]
 refine ⟨fun h1 => ?_, fun h1 => ?_⟩
 ·have := zgr (by omega) (show szR (zb7 a.left) l < 0 by simpa using h1)
  rw [zd9 (by have hu0 : zb7 a.left = a.left.length + (a.left.map Fm.wt).sum := rfl; have hu1 : zb7 a.right = a.right.length + (a.right.map Fm.wt).sum := rfl;  omega)]
 obtain ⟨k1, j1⟩ := zfp (show ¬ szR (zb7 a.left) l < 0 by simpa using h1)
 refine callF (ziq a.right (szR (zb7 a.left) l) (by omega) (by omega)) (by simp -implicitDefEqProofs only [go_sem, zak]) ?_
 simp -implicitDefEqProofs only [go_sem, zak]
 refine ⟨fun h2 => ?_, fun h2 => ?_⟩
 ·have := zgr (by omega) (show szR (zb7 a.right) (szR (zb7 a.left) l) < 0 by simpa using h2)
  rw [zd9 (by have hu0 : zb7 a.left = a.left.length + (a.left.map Fm.wt).sum := rfl; have hu1 : zb7 a.right = a.right.length + (a.right.map Fm.wt).sum := rfl;  omega)]
 obtain ⟨k2, j2⟩ := zfp (show ¬ szR (zb7 a.right) (szR (zb7 a.left) l) < 0 by simpa using h2)
 rw [show szR a.wt l = l - a.wt from zny (by have hu0 : zb7 a.left = a.left.length + (a.left.map Fm.wt).sum := rfl; have hu1 : zb7 a.right = a.right.length + (a.right.map Fm.wt).sum := rfl;  omega)]; exact zsu (by have hu0 : zb7 a.left = a.left.length + (a.left.map Fm.wt).sum := rfl; have hu1 : zb7 a.right = a.right.length + (a.right.map Fm.wt).sum := rfl;  omega)
set_option maxHeartbeats 400000 in
theorem zoz (a : Sq) (hs : a.wt <= 1048576) : FC Tryz.prog 33 [sqD a] [sqD a] := by
 have hW := a.wt_eq
 simp only [sqD, zak]
 refine zah Tryz.call33 Tryz.func33 rfl (by kernel_rfl) (zat (by kernel_rfl)) ?_
 simp -implicitDefEqProofs only [go_sem, Tryz.results33]
 refine callF (zi1 a.left (by have hu0 : zb7 a.left = a.left.length + (a.left.map Fm.wt).sum := rfl; have hu1 : zb7 a.right = a.right.length + (a.right.map Fm.wt).sum := rfl;  omega)) (by simp -implicitDefEqProofs only [go_sem, zak]) ?_
 simp -implicitDefEqProofs only [go_sem, zak]
 refine callF (zi1 a.right (by have hu0 : zb7 a.left = a.left.length + (a.left.map Fm.wt).sum := rfl; have hu1 : zb7 a.right = a.right.length + (a.right.map Fm.wt).sum := rfl;  omega)) (by simp -implicitDefEqProofs only [go_sem, zak]) ?_
 simp -implicitDefEqProofs only [go_sem, zak]
set_option maxHeartbeats 400000 in
theorem zns (a b : Sq) : FC Tryz.prog 37 [sqD a, sqD b] [bD (same a b)] := by
 simp only [sqD, zak]
 refine zah Tryz.call37 Tryz.func37 rfl (by kernel_rfl) (zat (by kernel_rfl)) ?_
 simp -implicitDefEqProofs only [go_sem, Tryz.results37]
 refine callF (ziw a.left b.left) (by simp -implicitDefEqProofs only [go_sem, zak]) ?_
 simp -implicitDefEqProofs only [go_sem, zak]
 refine ⟨fun h1 => ?_, fun h1 => ?_⟩
 ·rw [zc5.2 (by rintro rfl; simp [zbn] at h1)]
 refine callF (ziw a.right b.right) (by simp -implicitDefEqProofs only [go_sem, zak]) ?_
 simp -implicitDefEqProofs only [go_sem, zak]
 refine ⟨fun h2 => ?_, fun h2 => ?_⟩
 ·rw [zc5.2 (by rintro rfl; simp [zbn] at h2)]
 rw [zcc.2 (by cases a; cases b; simp [zcc, Sq.left, Sq.right] at h1 h2 ⊢; simp [h1, h2])]
theorem zqk (a : Sq) (l : Int) (h0 : 0 <= l) (h1 : l <= 1048576) : FC Tryz.prog 30 [sqD a, iD l] [iD (szR a.wt l)] := zpw a l h0 h1
theorem zqb (a : Sq) (hs : a.wt <= 1048576) : FC Tryz.prog 33 [sqD a] [sqD a] := zoz a hs
theorem zj8 (a b : Sq) : FC Tryz.prog 37 [sqD a, sqD b] [bD (same a b)] := zns a b
end Go.Proofs.YtemnhgmgeijkcaaGreat
namespace Go.Proofs.YtemnhgmgeijkcaaGreat
set_option linter.unusedSimpArgs false
set_option linter.unusedVariables false
set_option linter.unusedSectionVars false
set_option maxRecDepth 4000
open Go.RowKit
abbrev sqS (xs : List Sq) : T := .sl 2 (xs.map sqC)
inductive Dv where
 | mk (rule : Int) (seq : Sq) (main : Int) (term : Tm) (cut : Fm) (parts : List Dv)
def Dv.rule : Dv -> Int | .mk a _ _ _ _ _ => a
def Dv.seq : Dv -> Sq | .mk _ a _ _ _ _ => a
def Dv.main : Dv -> Int | .mk _ _ a _ _ _ => a
def Dv.term : Dv -> Tm | .mk _ _ _ a _ _ => a
def Dv.cut : Dv -> Fm | .mk _ _ _ _ a _ => a
def Dv.parts : Dv -> List Dv | .mk _ _ _ _ _ a => a
mutual
def Dv.fold {α : Type} (g : Int -> Sq -> Int -> Tm -> Fm -> List Dv -> List α -> α) : Dv -> α
 | .mk r s m t c ps => g r s m t c ps (Dv.folds g ps)
def Dv.folds {α : Type} (g : Int -> Sq -> Int -> Tm -> Fm -> List Dv -> List α -> α) : List Dv -> List α
 | [] => []
 | a :: xs => Dv.fold g a :: Dv.folds g xs
end
theorem Dv.folds_map {α : Type} (g : Int -> Sq -> Int -> Tm -> Fm -> List Dv -> List α -> α) (xs : List Dv) : Dv.folds g xs = xs.map (Dv.fold g) := by
 induction xs with
 | nil => rfl
 | cons a xs ih => rw [Dv.folds, ih]; rfl
theorem Dv.fold_eq {α : Type} (g : Int -> Sq -> Int -> Tm -> Fm -> List Dv -> List α -> α) (a : Dv) : Dv.fold g a = g a.rule a.seq a.main a.term a.cut a.parts (a.parts.map (Dv.fold g)) := by
 cases a; rw [Dv.fold, Dv.folds_map]; rfl
def dvC : Dv -> List T := Dv.fold fun r s m t c _ rs => [.int .i64 r, .sl 5 (s.left.map fmC), .sl 5 (s.right.map fmC), .int .i64 m, .str t.name, .sl 2 (t.args.map tmC), .int .i64 c.op, .str c.atom.name, .sl 2 (c.atom.args.map tmC), .str c.var, .sl 5 (c.parts.map fmC), .sl 12 rs]
theorem qa0 (a : Dv) : dvC a = [.int .i64 a.rule, .sl 5 (a.seq.left.map fmC), .sl 5 (a.seq.right.map fmC), .int .i64 a.main, .str a.term.name, .sl 2 (a.term.args.map tmC), .int .i64 a.cut.op, .str a.cut.atom.name, .sl 2 (a.cut.atom.args.map tmC), .str a.cut.var, .sl 5 (a.cut.parts.map fmC), .sl 12 (a.parts.map dvC)] := Dv.fold_eq _ a
theorem zbm (r : Int) (s : Sq) (m : Int) (t : Tm) (c : Fm) (ps : List Dv) : dvC (.mk r s m t c ps) = [.int .i64 r, .sl 5 (s.left.map fmC), .sl 5 (s.right.map fmC), .int .i64 m, .str t.name, .sl 2 (t.args.map tmC), .int .i64 c.op, .str c.atom.name, .sl 2 (c.atom.args.map tmC), .str c.var, .sl 5 (c.parts.map fmC), .sl 12 (ps.map dvC)] := qa0 _
abbrev dvD (a : Dv) : D := .agg (dvC a)
abbrev dvS (xs : List Dv) : T := .sl 12 (xs.map dvC)
def Dv.wt : Dv -> Nat := Dv.fold fun _ s _ t c ps rs => s.wt + t.wt + c.wt + (ps.length + rs.sum)
theorem Dv.wt_eq (a : Dv) : a.wt = a.seq.wt + a.term.wt + a.cut.wt + (a.parts.length + (a.parts.map Dv.wt).sum) := Dv.fold_eq _ a
end Go.Proofs.YtemnhgmgeijkcaaGreat
namespace Go.Proofs.YtemnhgmgeijkcaaGreat
set_option linter.unusedSimpArgs false
set_option linter.unusedVariables false
set_option linter.unusedSectionVars false
set_option maxRecDepth 4000
open Go.RowKit
def zfm (b : UInt8) : Bool := decide (97 <= (b.toNat : Int)) && decide ((b.toNat : Int) <= 122)
def qen (b : UInt8) : Bool := decide (48 <= (b.toNat : Int)) && decide ((b.toNat : Int) <= 57)
def zkv (b : UInt8) : Bool := decide (65 <= (b.toNat : Int)) && decide ((b.toNat : Int) <= 90)
def zm5 (b : UInt8) : Bool := zfm b || qen b
abbrev uD (b : UInt8) : D := .one (.int .u8 b.toNat)
theorem zh1 (b : UInt8) : FC Tryz.prog 275 [uD b] [bD (zfm b)] := by
 unfold zfm
 refine zah Tryz.call275 Tryz.func275 rfl (by kernel_rfl) (zat (by kernel_rfl)) ?_
 simp -implicitDefEqProofs only [go_sem, Tryz.results275]
 refine ⟨fun h => ?_, fun h => ?_⟩ <;> simp at h ⊢ <;> omega
theorem zpd (b : UInt8) : FC Tryz.prog 276 [uD b] [bD (qen b)] := by
 unfold qen
 refine zah Tryz.call276 Tryz.func276 rfl (by kernel_rfl) (zat (by kernel_rfl)) ?_
 simp -implicitDefEqProofs only [go_sem, Tryz.results276]
 refine ⟨fun h => ?_, fun h => ?_⟩ <;> simp at h ⊢ <;> omega
theorem zn0 (b : UInt8) : FC Tryz.prog 263 [uD b] [bD (zkv b)] := by
 unfold zkv
 refine zah Tryz.call263 Tryz.func263 rfl (by kernel_rfl) (zat (by kernel_rfl)) ?_
 simp -implicitDefEqProofs only [go_sem, Tryz.results263]
 refine ⟨fun h => ?_, fun h => ?_⟩ <;> simp at h ⊢ <;> omega
def inB (n lo hi : Int) : Bool := decide (lo <= n) && decide (n <= hi)
theorem zbz (n lo hi : Int) : FC Tryz.prog 204 [iD n, iD lo, iD hi] [bD (inB n lo hi)] := by
 unfold inB
 refine zah Tryz.call204 Tryz.func204 rfl (by kernel_rfl) (zat (by kernel_rfl)) ?_
 simp -implicitDefEqProofs only [go_sem, Tryz.results204]
 refine ⟨fun h => ?_, fun h => ?_⟩ <;> simp at h ⊢ <;> omega
theorem zef (n lo hi : Int) : FC Tryz.prog 195 [iD n, iD lo, iD hi] [bD (inB n lo hi)] := by
 unfold inB
 refine zah Tryz.call195 Tryz.func195 rfl (by kernel_rfl) (zat (by kernel_rfl)) ?_
 simp -implicitDefEqProofs only [go_sem, Tryz.results195]
 refine ⟨fun h => ?_, fun h => ?_⟩ <;> simp at h ⊢ <;> omega
theorem qfu (a b : Int) : FC Tryz.prog 296 [iD a, iD b] [iD (max a b)] := by
 refine zah Tryz.call296 Tryz.func296 rfl (by kernel_rfl) (zat (by kernel_rfl)) ?_
 simp -implicitDefEqProofs only [go_sem, Tryz.results296]
 refine ⟨fun h => ?_, fun h => ?_⟩ <;> simp at h <;> exact zsu (by omega)
theorem zob (b : UInt8) : FC Tryz.prog 273 [uD b] [bD (zm5 b)] := by
 unfold zm5 zfm qen
 refine zah Tryz.call273 Tryz.func273 rfl (by kernel_rfl) (zat (by kernel_rfl)) ?_
 simp -implicitDefEqProofs only [go_sem, Tryz.results273]
 simp only [T.bool.injEq, decide_eq_true_eq, decide_eq_false_iff_not]
 refine ⟨fun h => ⟨fun h2 => ⟨fun h3 => ?_, fun h3 => ?_⟩, fun h2 => ?_⟩, fun h => ⟨fun h2 => ?_, fun h2 => ?_⟩⟩ <;> simp [h, h2] <;> omega
def zr6 : Str -> Bool
 | [] => true
 | c :: cs => zkv c && cs.all zm5
def zbi (s : Str) : Bool := zr6 s && inB s.length 1 4
theorem zdl (s : Str) : FC Tryz.prog 228 [sD s] [bD (zbi s)] := by
 refine zdx (fun hw => ?_) Tryz.call228
 have hl : s.length <= 9223372036854775807 := by simpa [zhb, wfT] using hw.1
 refine zah Tryz.call228 Tryz.func228 rfl (by kernel_rfl) (zat (by kernel_rfl)) ?_
 simp -implicitDefEqProofs only [go_sem, Tryz.results228]
 refine zaf (fun k : Nat => hd [(0, vT (.str s)), (5, vI s.length), (6, vI k)] [] []) (fun k => k <= s.length /\ zr6 s = if k = 0 then zr6 s else (s.drop k).all zm5) (fun k => s.length - k) 0 (zac ?_) ?_ ?_
 ·simp -implicitDefEqProofs only [go_sem]
 ·simp
 ·intro k ⟨hk, hr⟩
  by_cases hlt : k < s.length
  ·by_cases h0 : k = 0
   ·subst h0
    have hl0 : (0 : Int) < s.length := by omega
    have he : zr6 s = (zkv (s.getD 0 0) && (s.drop 1).all zm5) := by cases s; exact absurd hlt (by simp); rfl
    simp -implicitDefEqProofs only [go_sem, hlt, hl0]
    refine callF (zn0 (s.getD 0 0)) (by simp -implicitDefEqProofs only [go_sem]) ?_
    simp -implicitDefEqProofs only [go_sem]
    refine ⟨fun h => ⟨1, ⟨hlt, ?_⟩, by omega, zac (by simp -implicitDefEqProofs only [go_sem]; rw [zbl (by omega) (by omega)])⟩, fun h => ?_⟩
    ·have : zkv (s.getD 0 0) = true := by simpa using h
     rw [he, this]; rfl
    ·have : zkv (s.getD 0 0) = false := by simpa using h
     rw [zbi, he, this]; rfl
   ·have h1 : ((k : Int) == 0) = false := by simp; omega
    have h2 : (0 : Int) < k := by omega
    have hg : s.getD k 0 = s[k] := by simp [List.getD, hlt]
    rw [if_neg h0, List.drop_eq_getElem_cons hlt, List.all_cons] at hr
    simp -implicitDefEqProofs only [go_sem, hlt, h1, h2]
    refine callF (zh1 (s.getD k 0)) (by simp -implicitDefEqProofs only [go_sem]) ?_
    simp -implicitDefEqProofs only [go_sem]
    simp only [hg]
    refine ⟨fun h => ⟨hlt, ?_⟩, fun h => ?_⟩
    ·refine callF (zpd s[k]) (by simp -implicitDefEqProofs only [go_sem]) ?_
     simp -implicitDefEqProofs only [go_sem]
     refine ⟨fun h' => ?_, fun h' => ⟨k + 1, ⟨hlt, ?_⟩, by omega, zac (by simp -implicitDefEqProofs only [go_sem]; rw [zav (by omega)])⟩⟩
     ·have : zm5 s[k] = false := by simp [zm5]; simp at h h'; exact ⟨h, h'⟩
      simp [zbi, hr, this]
     ·have : zm5 s[k] = true := by simp [zm5]; right; simpa using h'
      rw [hr, this]; simp
    ·refine ⟨k + 1, ⟨hlt, ?_⟩, by omega, zac (by simp -implicitDefEqProofs only [go_sem]; rw [zav (by omega)])⟩
     have : zm5 s[k] = true := by simp [zm5]; left; simpa using h
     rw [hr, this]; simp
  ·simp -implicitDefEqProofs only [go_sem, hlt]
   refine callF (zbz s.length 1 4) (by simp -implicitDefEqProofs only [go_sem]) ?_
   simp -implicitDefEqProofs only [go_sem]
   have : zr6 s = true := by
    by_cases h0 : k = 0
    ·have : s = [] := List.length_eq_zero_iff.1 (by omega)
     rw [this]; rfl
    ·rw [hr, if_neg h0, List.drop_of_length_le (by omega)]; rfl
   simp [zbi, this]
end Go.Proofs.YtemnhgmgeijkcaaGreat
namespace Go.Proofs.YtemnhgmgeijkcaaGreat
set_option linter.unusedSimpArgs false
set_option linter.unusedVariables false
set_option linter.unusedSectionVars false
set_option maxRecDepth 4000
open Go.RowKit
abbrev zcj (xs : List Str) : T := .sl 1 (xs.map fun s => [.str s])
theorem zy6 {α : Type} [BEq α] [LawfulBEq α] {xs : List α} {s : α} {k : Nat} (hk : k < xs.length) (hn : s ∉ xs.take k) (e : xs[k] = s) : xs.idxOf s = k := by
 have h : xs = xs.take k ++ xs.drop k := (List.take_append_drop k xs).symm
 rw [List.drop_eq_getElem_cons hk] at h
 rw [h, List.idxOf_append, if_neg hn, e]
 rw [show (s :: xs.drop (k + 1)).idxOf s = 0 from List.idxOf_cons_self ..]
 simp; omega
theorem zho {α : Type} {xs : List α} {s : α} {k : Nat} (hk : k < xs.length) (hn : s ∉ xs.take k) (e : xs[k] ≠ s) : s ∉ xs.take (k + 1) := by
 rw [List.take_succ_eq_append_getElem hk]
 simp only [List.mem_append, List.mem_singleton, not_or]
 exact ⟨hn, fun h => e h.symm⟩
def idxS {α : Type} [BEq α] (xs : List α) (s : α) : Int := if xs.contains s then xs.idxOf s else -1
theorem zvb (xs : List Str) (s : Str) : FC Tryz.prog 236 [.one (zcj xs), sD s] [iD (idxS xs s)] := by
 refine zdx (fun hw => ?_) Tryz.call236
 have hl : xs.length <= 9223372036854775807 := by simpa [zhb, wfT] using hw.1.1
 refine zah Tryz.call236 Tryz.func236 rfl (by kernel_rfl) (zat (by kernel_rfl)) ?_
 simp -implicitDefEqProofs only [go_sem, Tryz.results236]
 refine zaf (fun k : Nat => hd [(0, vT (zcj xs)), (1, vT (.str s)), (7, vI xs.length), (8, vI k)] [] []) (fun k => k <= xs.length /\ s ∉ xs.take k) (fun k => xs.length - k) 0 (zac ?_) ?_ ?_
 ·simp -implicitDefEqProofs only [go_sem]
 ·simp
 ·intro k ⟨hk, hr⟩
  by_cases hlt : k < xs.length
  ·simp -implicitDefEqProofs only [go_sem, zad, hlt]
   refine ⟨fun h => ?_, fun h => ?_⟩
   ·have e : xs[k] = s := (beq_iff_eq.1 h).symm
    have hm : s ∈ xs := e ▸ List.getElem_mem hlt
    rw [idxS, if_pos (by simpa using hm), zy6 hlt hr e]
   ·have e : xs[k] ≠ s := fun e => by simp [e] at h
    exact ⟨k + 1, ⟨hlt, zho hlt hr e⟩, by omega, zac (by simp -implicitDefEqProofs only [go_sem]; rw [zav (by omega)])⟩
  ·simp -implicitDefEqProofs only [go_sem, hlt]
   rw [List.take_of_length_le (by omega)] at hr
   rw [idxS, if_neg (by simpa using hr)]
theorem zcr (xs : List Str) (s : Str) : FC Tryz.prog 171 [.one (zcj xs), sD s] [bD (xs.contains s)] := by
 refine zah Tryz.call171 Tryz.func171 rfl (by kernel_rfl) (zat (by kernel_rfl)) ?_
 simp -implicitDefEqProofs only [go_sem, Tryz.results171]
 refine callF (zvb xs s) (by simp -implicitDefEqProofs only [go_sem]) ?_
 simp -implicitDefEqProofs only [go_sem]
 unfold idxS
 cases h : xs.contains s <;> simp
def zrp : List Str := [[116, 114, 117, 101], [102, 97, 108, 115, 101], [116, 114, 117, 116, 104], [98, 111, 116, 104], [101, 105, 116, 104, 101, 114], [105, 102], [97, 108, 108], [115, 111, 109, 101]]
theorem zv2 : FC Tryz.prog 291 [] [.one (zcj zrp)] := by
 refine zah Tryz.call291 Tryz.func291 rfl (by kernel_rfl) (zat (by kernel_rfl)) ?_
 simp -implicitDefEqProofs only [go_sem, Tryz.results291]
 refine zaj (by simp -implicitDefEqProofs only [go_sem]) ?_
 simp -implicitDefEqProofs only [go_sem]
 rfl
def zmw (b : UInt8) : Bool := zm5 b || b == 95
def zkk : Str -> Bool
 | [] => true
 | c :: cs => zfm c && cs.all zmw
def zc0 (s : Str) : Bool := zkk s && inB s.length 1 6 && !zrp.contains s
theorem qiv {b : UInt8} {n : Nat} (hn : n < 256) : ((b.toNat : Int) == (n : Int)) = (b == UInt8.ofNat n) := by
 rw [Bool.eq_iff_iff]
 simp only [beq_iff_eq]
 constructor
 ·intro h
  apply UInt8.toNat_inj.1
  simp [UInt8.toNat_ofNat]
  omega
 ·intro h
  subst h
  simp [UInt8.toNat_ofNat]
  omega
theorem zln (s : Str) : FC Tryz.prog 261 [sD s] [bD (zc0 s)] := by
 refine zdx (fun hw => ?_) Tryz.call261
 have hl : s.length <= 9223372036854775807 := by simpa [zhb, wfT] using hw.1
 refine zah Tryz.call261 Tryz.func261 rfl (by kernel_rfl) (zat (by kernel_rfl)) ?_
 simp -implicitDefEqProofs only [go_sem, Tryz.results261]
 refine zaf (fun k : Nat => hd [(0, vT (.str s)), (5, vI s.length), (6, vI k)] [] []) (fun k => k <= s.length /\ zkk s = if k = 0 then zkk s else (s.drop k).all zmw) (fun k => s.length - k) 0 (zac ?_) ?_ ?_
 ·simp -implicitDefEqProofs only [go_sem]
 ·simp
 ·intro k ⟨hk, hr⟩
  by_cases hlt : k < s.length
  ·by_cases h0 : k = 0
   ·subst h0
    have hl0 : (0 : Int) < s.length := by omega
    have he : zkk s = (zfm (s.getD 0 0) && (s.drop 1).all zmw) := by cases s; exact absurd hlt (by simp); rfl
    simp -implicitDefEqProofs only [go_sem, hlt, hl0]
    refine callF (zh1 (s.getD 0 0)) (by simp -implicitDefEqProofs only [go_sem]) ?_
    simp -implicitDefEqProofs only [go_sem]
    refine ⟨fun h => ⟨hl0, ?_⟩, fun h => ?_⟩
    ·have hi : zfm (s.getD 0 0) = true := by simpa using h
     refine callF (zh1 (s.getD 0 0)) (by simp -implicitDefEqProofs only [go_sem, hi]) ?_
     simp -implicitDefEqProofs only [go_sem, hi]
     refine ⟨1, ⟨hlt, ?_⟩, by omega, zac (by simp -implicitDefEqProofs only [go_sem]; rw [zbl (by omega) (by omega)])⟩
     rw [he, hi]; rfl
    ·have : zfm (s.getD 0 0) = false := by simpa using h
     rw [zc0, he, this]; rfl
   ·have h1 : ((k : Int) == 0) = false := by simp; omega
    have h2 : (0 : Int) < k := by omega
    have hg : s.getD k 0 = s[k] := by simp [List.getD, hlt]
    rw [if_neg h0, List.drop_eq_getElem_cons hlt, List.all_cons] at hr
    simp -implicitDefEqProofs only [go_sem, hlt, h1, h2]
    refine callF (zh1 (s.getD k 0)) (by simp -implicitDefEqProofs only [go_sem]) ?_
    simp -implicitDefEqProofs only [go_sem]
    simp only [hg]
    refine ⟨fun h => ⟨hlt, ?_⟩, fun h => ?_⟩
    ·refine callF (zpd s[k]) (by simp -implicitDefEqProofs only [go_sem]) ?_
     simp -implicitDefEqProofs only [go_sem]
     simp only [hg]
     refine ⟨fun h' => ⟨hlt, fun h'' => ?_, fun h'' => ⟨k + 1, ⟨hlt, ?_⟩, by omega, zac (by simp -implicitDefEqProofs only [go_sem]; rw [zav (by omega)])⟩⟩, fun h' => ⟨k + 1, ⟨hlt, ?_⟩, by omega, zac (by simp -implicitDefEqProofs only [go_sem]; rw [zav (by omega)])⟩⟩
     ·have : zmw s[k] = false := by
       have := qiv (b := s[k]) (n := 95) (by omega)
       simp [zmw, zm5] at h h' ⊢
       refine ⟨⟨h, h'⟩, fun e => ?_⟩
       rw [e] at h''
       simp at h''
      rw [zc0, hr, this]; rfl
     ·have : zmw s[k] = true := by
       have := qiv (b := s[k]) (n := 95) (by omega)
       simp [zmw] at h'' ⊢
       right
       simpa [h''] using this
      rw [hr, this]; rfl
     ·have : zmw s[k] = true := by simp [zmw, zm5]; simp at h'; simp [h']
      rw [hr, this]; rfl
    ·refine ⟨k + 1, ⟨hlt, ?_⟩, by omega, zac (by simp -implicitDefEqProofs only [go_sem]; rw [zav (by omega)])⟩
     have : zmw s[k] = true := by simp [zmw, zm5]; simp at h; simp [h]
     rw [hr, this]; rfl
  ·simp -implicitDefEqProofs only [go_sem, hlt]
   refine callF (zbz s.length 1 6) (by simp -implicitDefEqProofs only [go_sem]) ?_
   simp -implicitDefEqProofs only [go_sem]
   have ha : zkk s = true := by
    by_cases h0 : k = 0
    ·have : s = [] := List.length_eq_zero_iff.1 (by omega)
     rw [this]; rfl
    ·rw [hr, if_neg h0, List.drop_of_length_le (by omega)]; rfl
   refine ⟨fun h => ?_, fun h => ?_⟩
   ·refine callF (zv2) (by simp -implicitDefEqProofs only [go_sem]) ?_
    simp -implicitDefEqProofs only [go_sem]
    refine callF (zcr zrp s) (by simp -implicitDefEqProofs only [go_sem]) ?_
    simp -implicitDefEqProofs only [go_sem]
    rw [zc0, ha, h]; rfl
   ·rw [zc0, ha, h]; rfl
end Go.Proofs.YtemnhgmgeijkcaaGreat
namespace Go.Proofs.YtemnhgmgeijkcaaGreat
set_option linter.unusedSimpArgs false
set_option linter.unusedVariables false
set_option linter.unusedSectionVars false
set_option maxRecDepth 4000
open Go.RowKit Go.Sort Go.Proofs
variable {P : Program}
theorem zuj {w : World} : ∀ {ss : List Str} {vs : List Value} {fps : List Nat}, za4 w (ss.map T.str) vs fps -> vs = ss.map encStr /\ fps = [] /\ ∀ s ∈ ss, s.length <= zf7
 | [], vs, fps, h => ⟨h.1, h.2, by simp⟩
 | s :: ss, vs, fps, h => by
  obtain ⟨v, vs', f1, f2, rfl, rfl, h1, h2⟩ := h
  unfold za3 at h1
  obtain ⟨rfl, k1, rfl⟩ := h1
  obtain ⟨rfl, rfl, k2⟩ := zuj h2
  exact ⟨rfl, rfl, fun x hx => (List.mem_cons.1 hx).elim (fun e => e ▸ k1) (k2 x)⟩
theorem ztl {w : World} : ∀ {ss : List Str}, (∀ s ∈ ss, s.length <= zf7) -> za4 w (ss.map T.str) (ss.map encStr) []
 | [], _ => ⟨rfl, rfl⟩
 | s :: ss, h => ⟨_, _, [], [], rfl, rfl, by unfold za3; exact ⟨rfl, h s (by simp), rfl⟩, ztl fun x hx => h x (by simp [hx])⟩
theorem zka (ss : List Str) : (ss.map fun s => [T.str s]).flatten = ss.map T.str := by induction ss <;> simp_all
theorem zy7 (ss : List Str) : lens 1 (ss.map fun s => [T.str s]) := fun r hr => by obtain ⟨s, _, rfl⟩ := List.mem_map.1 hr; rfl
abbrev zi4 (ss : List Str) : List Str := ss.mergeSort leB
theorem qkd {f : FuncId} (hc : zbj P f) (hS : ∀ (blk off cap : Nat) (ss : List (List UInt8)) (w : World), Holds encStr w blk off ss.toArray -> blk < w.heap.size -> ss.length < 4611686018427387904 →
   Calls P f #[.slice (some ⟨blk, off, none⟩) ss.length cap] w fun e w' => e = .returned (.tuple #[]) /\ ∃ n os, w' = grow (putRow encStr (Sort.ahead w n) blk off (ss.mergeSort fun x y => decide (x <= y)).toArray) os)
  (hN : ∀ (p : Option Addr) (cap : Nat) (w : World), Calls P f #[.slice p 0 cap] w fun e w' => e = .returned (.tuple #[]) /\ w' = w) (ss : List Str) (hl : ss.length < 4611686018427387904) : IC P f [] (.one (zcj ss)) [] (.one (zcj (zi4 ss))) [] := by
 refine ⟨hc, fun w us1 v us2 fp tp h1 hg h2 hn => ?_⟩
 rw [show us1 = [] from h1, show us2 = [] from h2]
 obtain ⟨hg, _⟩ := hg
 unfold za3 at hg
 obtain ⟨ao, cap, rfl, q1, q2, q3⟩ := hg
 rw [List.length_map] at q1 ⊢
 rcases q3 with ⟨rfl, rfl, q3, rfl⟩ | ⟨b, cells, ty, fps, rfl, rfl, q3, q4, q5⟩
 ·have hs : ss = [] := List.map_eq_nil_iff.1 q3
  subst hs
  refine (hN none 0 w).mono ?_
  rintro e w' ⟨rfl, rfl⟩
  refine ⟨[], [], [], rfl, ⟨_, [], [], [], [], [], rfl, rfl, rfl, ⟨?_, rfl⟩, rfl, rfl, rfl⟩, List.nodup_nil, by simp, Bk.refl _ _⟩
  unfold za3
  exact ⟨none, 0, by simp [zi4], by simp [zi4], by simp, Or.inl ⟨rfl, rfl, by simp [zi4], rfl⟩⟩
 ·obtain ⟨_, vs, k1, k2, k3⟩ := q5.vals
  rw [zka] at k3
  obtain ⟨rfl, rfl, k4⟩ := zuj k3
  have hsz : ss.length <= cells.size := by omega
  have ht : cells.toList.take ss.length = ss.map encStr := by
   apply List.ext_getElem?
   intro j
   by_cases hj : j < ss.length
   ·rw [List.getElem?_take_of_lt hj, Array.getElem?_toList]
    have := k2 j _ (List.getElem?_eq_getElem (by simpa using hj))
    rw [Nat.zero_add] at this
    rw [this, List.getElem?_eq_getElem (by simpa using hj)]
   ·rw [List.getElem?_take_eq_none (by omega), List.getElem?_eq_none (by simp; omega)]
  refine (hS b 0 cap ss w (holds_of_block q3 ht) (Array.getElem?_eq_some_iff.1 q3).1 hl).mono ?_
  rintro e w' ⟨rfl, n, os, rfl⟩
  have hgr := grownBy_sorted (w := w) (g := b) (n := n) (os := os) (ss.mergeSort fun x y => decide (x <= y)).toArray
  have hlen : (zi4 ss).length = ss.length := by simp [zi4]
  have htk := take_putCells cells (zi4 ss) (by omega)
  refine ⟨[], [b], [b], rfl, ⟨_, [], [b], [], [b], [], rfl, rfl, rfl, ⟨?_, rfl⟩, rfl, rfl, rfl⟩, by simp, fun x hx => Or.inl hx, ⟨hgr.os, hgr.tape, hgr.output, hgr.size, fun k hk => hgr.block k hk.1 fun e => hk.2 (by cases e; simp)⟩⟩
  unfold za3
  refine ⟨_, cap, by rw [List.length_map, hlen], by rw [List.length_map, hlen]; exact q1, q2, Or.inr ⟨b, _, ty, [], rfl, rfl, heap_sorted _ q3, by simp [putCells, q4], ?_⟩⟩
  refine zam.of_vals (zy7 _) (by rw [zka]; exact ztl fun s hs => k4 s ((List.mergeSort_perm ss leB).mem_iff.1 hs)) fun j u hu => ?_
  rw [<- htk, List.getElem?_take] at hu
  split at hu
  ·simpa using hu
  ·cases hu
structure CloneOf (P : Program) (f : FuncId) (sz bytes : Nat) : Prop where
 call : zbj P f
 old : ∀ (ad : Addr) (n c : Nat) (news : List Value) (w : World), news.length = n * sz -> n <= maxLen -> n * bytes <= 140737488355328 -> (∀ j u, news[j]? = some u -> w.cell? (ad.add j) = some u) -> (∀ u ∈ news, u.oneCell' = true) →
  Calls P f #[.slice (some ad) n c] w fun e w' => ∃ t v', e = .returned v' /\ w'.ownsRow w.heap.size t sz v' n news /\ v' ≠ .slice none 0 0 /\ Below w.heap.size w w'
 none : ∀ (n c : Nat) (w : World), Calls P f #[.slice none n c] w fun e w' => e = .returned (.slice none 0 0) /\ w' = w
theorem zau.valsA {w : World} {A : Nat -> Prop} {b sz : Nat} {rows : List (List T)} {o : Nat} (h : zau w A b o sz rows) : ∃ vs, vs.length = rows.length * sz /\ (∀ j u, vs[j]? = some u -> w.cell? ⟨b, o + j, none⟩ = some u) /\ zae w A rows.flatten vs /\ lens sz rows := by
 obtain ⟨h1, vs, h2, h3, h4⟩ := h.vals
 exact ⟨vs, h2, h3, h4, h1⟩
theorem zy0 {f : FuncId} {sz bytes : Nat} (h : CloneOf P f sz bytes) (rows : List (List T)) (hb : rows.length * bytes <= 140737488355328) {w : World} {A : Nat -> Prop} {v : Value} (h1 : zar w A (.sl sz rows) v) :
  Calls P f #[v] w fun e w' => ∃ v', e = .returned v' /\ Below w.heap.size w w' /\ ((v' = .slice none 0 0 /\ rows = []) \/ ∃ g cap cur ty vs, v' = .slice (some ⟨g, 0, none⟩) rows.length cap /\ w.heap.size <= g /\ w'.heap[g]? = some (.cells cur ty (0, 0)) /\ rows.length <= cap /\ cap <= zf7 /\ cur.size = cap * sz /\ cur.toList.take (rows.length * sz) = vs /\ zae w A rows.flatten vs /\ lens sz rows) := by
 unfold zar at h1
 obtain ⟨ao, cap, rfl, q1, q2, q3⟩ := h1
 cases ao with
 | none =>
  have hr : rows = [] := q3.resolve_right fun ⟨b, o, e, _⟩ => by cases e
  refine (h.none rows.length cap w).mono ?_
  rintro e w' ⟨rfl, rfl⟩
  exact ⟨_, rfl, Below.refl _ _, Or.inl ⟨rfl, hr⟩⟩
 | some ad =>
  have hx : ∃ news : List Value, news.length = rows.length * sz /\ (∀ j u, news[j]? = some u -> w.cell? (ad.add j) = some u) /\ zae w A rows.flatten news /\ lens sz rows := by
   rcases q3 with rfl | ⟨b', o', e, _, q4⟩
   ·exact ⟨[], by simp, fun j u hj => by simp at hj, by unfold zae; rfl, fun r hr => by simp at hr⟩
   ·cases e
    obtain ⟨news, k1, k2, k3, k4⟩ := q4.valsA
    exact ⟨news, k1, fun j u hj => by rw [ze3]; exact k2 j u hj, k3, k4⟩
  obtain ⟨news, k1, k2, k3, k4⟩ := hx
  refine (h.old ad rows.length cap news w k1 (by unfold maxLen; have := q2; unfold zf7 at this; omega) hb k2 k3.one).mono ?_
  rintro e w' ⟨t, v', rfl, ⟨o1, o2⟩, hn, hbel⟩
  refine ⟨v', rfl, hbel, Or.inr ?_⟩
  rcases o2 with ⟨e, _⟩ | ⟨g, cap', cur, e, p1, p2, p3, p4, p5, p6⟩
  ·exact absurd e hn
  ·exact ⟨g, cap', cur, t, news, e, p1, p2, p3, by unfold maxLen at p4; omega, p5, p6, k3, k4⟩
theorem qh9 {cur : Array Value} {vs : List Value} {n : Nat} (h : cur.toList.take n = vs) : ∀ j u, vs[j]? = some u -> cur[0 + j]? = some u := fun j u hu => by
 rw [<- h, List.getElem?_take] at hu
 split at hu
 ·simpa using hu
 ·cases hu
theorem qe1 {f : FuncId} {sz bytes : Nat} (h : CloneOf P f sz bytes) (rows : List (List T)) (hb : rows.length * bytes <= 140737488355328) (hf : ∀ c ∈ rows.flatten, c.flat = true) : FC P f [.one (.sl sz rows)] [.one (.sl sz rows)] := by
 refine ⟨h.call, fun w vs fp tp hv hn => ?_⟩
 obtain ⟨hr, rfl, rfl⟩ := zdg hv
 obtain ⟨v, _, rfl, h1, rfl⟩ := hr
 refine (zy0 h rows hb h1).mono ?_
 rintro e w' ⟨v', rfl, hbel, hh⟩
 have hB : Bk (fun k => k < w.heap.size /\ k ∉ ([] : List Nat)) w w' := ⟨hbel.os, hbel.tape, hbel.output, hbel.size, fun k hk => hbel.block k hk.1⟩
 rcases hh with ⟨rfl, hr⟩ | ⟨g, cap, cur, ty, vs, rfl, p1, p2, p3, p4, p5, p6, p7, p8⟩
 ·subst hr
  refine ⟨[_], [], [], rfl, ⟨_, [], [], [], [], [], rfl, rfl, rfl, ⟨?_, rfl⟩, rfl, rfl, rfl⟩, List.nodup_nil, by simp, hB⟩
  unfold za3
  exact ⟨Option.none, 0, rfl, Nat.le_refl _, by simp, Or.inl ⟨rfl, rfl, rfl, rfl⟩⟩
 ·refine ⟨[_], [g], [g], rfl, ⟨_, [], [g], [], [g], [], rfl, rfl, rfl, ⟨?_, rfl⟩, rfl, rfl, rfl⟩, by simp, fun b hb => by rw [List.mem_singleton.1 hb]; exact Or.inr p1, hB⟩
  unfold za3
  refine ⟨_, cap, rfl, p3, p4, Or.inr ⟨g, cur, ty, [], rfl, rfl, p2, p5, ?_⟩⟩
  have hown := zae.own p7 hf
  exact zam.of_vals p8 (za4.keep hown fun b hb => by simp at hb) fun j u hu => qh9 p6 j u hu
theorem znj (a b : Str) : Op.bytesLess a b = decide (a < b) := bytesLess_eq a b
def Srt (xs : List Str) : Prop := xs.Pairwise (· < ·)
theorem zna (a : Str) : ¬ a < a := List.lt_irrefl a
theorem znt {xs : List Str} (h : Srt xs) : xs.Nodup := List.Pairwise.imp (fun {a b} (h : a < b) (e : a = b) => zna b (e ▸ h)) h
theorem qh6 {xs ys : List Str} (hx : Srt xs) (hy : Srt ys) (h : ∀ s, s ∈ xs ↔ s ∈ ys) : xs = ys := by
 have hp : xs.Perm ys := (List.perm_ext_iff_of_nodup (znt hx) (znt hy)).2 h
 exact hp.eq_of_pairwise (le := fun a b => a < b) (fun a b _ _ h1 h2 => absurd (List.lt_trans h1 h2) (zna a)) hx hy
theorem qgc {a b : Str} (h : a <= b) : a < b \/ a = b := by
 by_cases h1 : a < b
 ·exact Or.inl h1
 ·exact Or.inr (List.le_antisymm h (List.not_lt.1 h1))
theorem qbk (xs : List Str) (s : Str) : s ∈ zi4 xs ↔ s ∈ xs := (List.mergeSort_perm xs leB).mem_iff
theorem zyu {xs : List Str} (h : xs.Nodup) : Srt (zi4 xs) := by
 have tr : ∀ a b c : List UInt8, leB a b = true -> leB b c = true -> leB a c = true := fun a b c h1 h2 => by simp only [leB, decide_eq_true_eq] at *; exact List.le_trans h1 h2
 have to : ∀ a b : List UInt8, (leB a b || leB b a) = true := fun a b => by simp only [leB, Bool.or_eq_true, decide_eq_true_eq]; exact List.le_total a b
 have hs := List.pairwise_mergeSort tr to xs
 have hn : (zi4 xs).Nodup := (List.mergeSort_perm xs leB).nodup_iff.2 h
 refine (List.Pairwise.and hs hn).imp ?_
 rintro a b ⟨h1, h2⟩
 simp only [leB, decide_eq_true_eq] at h1
 exact (qgc h1).resolve_right h2
def zsm (l : List Str) (s : Str) : List Str := if (l.dropWhile fun x => Op.bytesLess x s).head? = some s then l else (l.takeWhile fun x => Op.bytesLess x s) ++ [s] ++ l.dropWhile fun x => Op.bytesLess x s
theorem qdw (l : List Str) (s x : Str) : x ∈ zsm l s ↔ x = s \/ x ∈ l := by
 have e : l = (l.takeWhile fun x => Op.bytesLess x s) ++ l.dropWhile fun x => Op.bytesLess x s := (List.takeWhile_append_dropWhile).symm
 unfold zsm
 split
 ·rename_i h
  have : s ∈ l := by rw [e]; exact List.mem_append_right _ (List.mem_of_mem_head? h)
  exact ⟨Or.inr, fun h => h.elim (fun e => e ▸ this) id⟩
 ·conv => rhs; rw [e]
  simp only [List.mem_append, List.mem_singleton, or_assoc]
  constructor
  ·rintro (h | h | h)
   ·exact Or.inr (Or.inl h)
   ·exact Or.inl h
   ·exact Or.inr (Or.inr h)
  ·rintro (h | h | h)
   ·exact Or.inr (Or.inl h)
   ·exact Or.inl h
   ·exact Or.inr (Or.inr h)
theorem zkz {l : List Str} {p : Str -> Bool} {x : Str} (h : (l.dropWhile p).head? = some x) : p x = false := by
 induction l with
 | nil => simp at h
 | cons a l ih =>
  rw [List.dropWhile_cons] at h
  split at h
  ·exact ih h
  ·rename_i hp; simp only [List.head?_cons, Option.some.injEq] at h; subst h; simpa using hp
theorem qfw {l : List Str} (h : Srt l) (s : Str) : Srt (zsm l s) := by
 unfold zsm
 split
 ·exact h
 ·rename_i hne
  have e : (l.takeWhile fun x => Op.bytesLess x s) ++ (l.dropWhile fun x => Op.bytesLess x s) = l := List.takeWhile_append_dropWhile
  have h' := h
  rw [<- e] at h'
  obtain ⟨h1, h2, h3⟩ := List.pairwise_append.1 h'
  have ht : ∀ a ∈ l.takeWhile fun x => Op.bytesLess x s, a < s := fun a ha => by
   have := List.all_takeWhile (l := l) (p := fun x => Op.bytesLess x s)
   have := List.all_eq_true.1 this a ha
   rw [znj] at this
   exact of_decide_eq_true this
  have hd : ∀ a ∈ l.dropWhile fun x => Op.bytesLess x s, s < a := fun a ha => by
   cases hD : l.dropWhile fun x => Op.bytesLess x s with
   | nil => rw [hD] at ha; simp at ha
   | cons y ys =>
    have hy := zkz (l := l) (p := fun x => Op.bytesLess x s) (x := y) (by rw [hD]; rfl)
    have hys : s < y := by
     have h0 : ¬ y < s := by rw [znj] at hy; exact of_decide_eq_false hy
     rcases qgc (List.not_lt.1 h0) with h | h
     ·exact h
     ·exact absurd (by rw [hD, h]; rfl) hne
    rw [hD] at ha h2
    rcases List.mem_cons.1 ha with rfl | ha
    ·exact hys
    ·exact List.lt_trans hys ((List.pairwise_cons.1 h2).1 a ha)
  rw [List.append_assoc]
  refine List.pairwise_append.2 ⟨h1, ?_, fun a ha b hb => ?_⟩
  ·exact List.pairwise_cons.2 ⟨hd, h2⟩
  ·rcases List.mem_cons.1 hb with rfl | hb
   ·exact ht a ha
   ·exact h3 a ha b hb
end Go.Proofs.YtemnhgmgeijkcaaGreat
namespace Go.Proofs
open Go.Shelf
set_option maxRecDepth 100000
def Tryz.lays190_ren : Go.Shelf.Ren := ⟨fun | 190 => 118 | 125 => 185 | 258 => 184 | 128 => 256 | 129 => 257 | 302 => 247 | 303 => 248 | 304 => 249 | 305 => 250 | 306 => 251 | 307 => 252 | 308 => 253 | 309 => 254 | 310 => 255 | 333 => 285 | 329 => 286 | 330 => 287 | 334 => 288 | 335 => 289 | 336 => 290 | 344 => 297 | n => n, fun | 31 => 100 | 9 => 9 | 3 => 3 | 46 => 152 | 0 => 0 | 51 => 227 | 53 => 229 | 4 => 4 | 183 => 219 | 182 => 218 | 131 => 224 | 5 => 5 | 218 => 241 | 222 => 245 | 228 => 252 | 229 => 253 | n => n, fun | n => n⟩
theorem Tryz.lays190 : Go.Proofs.Lays.n190 Tryz.prog Tryz.lays190_ren := {
 mixed := by kernel_rfl
 f125 := Tryz.func185.trans (congrArg some (by kernel_rfl))
 f128 := Tryz.func256.trans (congrArg some (by kernel_rfl))
 f129 := Tryz.func257.trans (congrArg some (by kernel_rfl))
 f190 := Tryz.func118.trans (congrArg some (by kernel_rfl))
 f258 := Tryz.func184.trans (congrArg some (by kernel_rfl))
 f302 := Tryz.func247.trans (congrArg some (by kernel_rfl))
 f303 := Tryz.func248.trans (congrArg some (by kernel_rfl))
 f304 := Tryz.func249.trans (congrArg some (by kernel_rfl))
 f305 := Tryz.func250.trans (congrArg some (by kernel_rfl))
 f306 := Tryz.func251.trans (congrArg some (by kernel_rfl))
 f307 := Tryz.func252.trans (congrArg some (by kernel_rfl))
 f308 := Tryz.func253.trans (congrArg some (by kernel_rfl))
 f309 := Tryz.func254.trans (congrArg some (by kernel_rfl))
 f310 := Tryz.func255.trans (congrArg some (by kernel_rfl))
 f329 := Tryz.func286.trans (congrArg some (by kernel_rfl))
 f330 := Tryz.func287.trans (congrArg some (by kernel_rfl))
 f333 := Tryz.func285.trans (congrArg some (by kernel_rfl))
 f334 := Tryz.func288.trans (congrArg some (by kernel_rfl))
 f335 := Tryz.func289.trans (congrArg some (by kernel_rfl))
 f336 := Tryz.func290.trans (congrArg some (by kernel_rfl))
 f344 := Tryz.func297.trans (congrArg some (by kernel_rfl))
 t0 := Tryz.underlying0
 a0 := Tryz.isAgg0
 z0 := Tryz.sizeOf0
 v0 := Tryz.zeroValue0
 t3 := Tryz.underlying3
 a3 := Tryz.isAgg3
 z3 := Tryz.sizeOf3
 v3 := Tryz.zeroValue3
 t4 := Tryz.underlying4
 a4 := Tryz.isAgg4
 z4 := Tryz.sizeOf4
 v4 := Tryz.zeroValue4
 t5 := Tryz.underlying5
 a5 := Tryz.isAgg5
 z5 := Tryz.sizeOf5
 v5 := Tryz.zeroValue5
 t9 := Tryz.underlying9
 a9 := Tryz.isAgg9
 z9 := Tryz.sizeOf9
 v9 := Tryz.zeroValue9
 t31 := Tryz.underlying100
 a31 := Tryz.isAgg100
 z31 := Tryz.sizeOf100
 v31 := Tryz.zeroValue100
 t46 := Tryz.underlying152
 a46 := Tryz.isAgg152
 z46 := Tryz.sizeOf152
 v46 := Tryz.zeroValue152
 t51 := Tryz.underlying227
 a51 := Tryz.isAgg227
 z51 := Tryz.sizeOf227
 v51 := Tryz.zeroValue227
 t53 := Tryz.underlying229
 a53 := Tryz.isAgg229
 z53 := Tryz.sizeOf229
 v53 := Tryz.zeroValue229
 t131 := Tryz.underlying224
 a131 := Tryz.isAgg224
 z131 := Tryz.sizeOf224
 v131 := Tryz.zeroValue224
 t182 := Tryz.underlying218
 a182 := Tryz.isAgg218
 z182 := Tryz.sizeOf218
 v182 := Tryz.zeroValue218
 t183 := Tryz.underlying219
 a183 := Tryz.isAgg219
 z183 := Tryz.sizeOf219
 v183 := Tryz.zeroValue219
 t218 := Tryz.underlying241
 a218 := Tryz.isAgg241
 z218 := Tryz.sizeOf241
 v218 := Tryz.zeroValue241
 t222 := Tryz.underlying245
 a222 := Tryz.isAgg245
 z222 := Tryz.sizeOf245
 v222 := Tryz.zeroValue245
 t228 := Tryz.underlying252
 a228 := Tryz.isAgg252
 z228 := Tryz.sizeOf252
 v228 := Tryz.zeroValue252
 t229 := Tryz.underlying253
 a229 := Tryz.isAgg253
 z229 := Tryz.sizeOf253
 v229 := Tryz.zeroValue253 }
end Go.Proofs
namespace Go.Proofs.YtemnhgmgeijkcaaGreat
set_option linter.unusedSimpArgs false
set_option linter.unusedVariables false
set_option linter.unusedSectionVars false
set_option maxRecDepth 4000
open Go.RowKit
theorem Tm.wt_args {a : Tm} {n : Nat} (h : a.wt <= n) : a.args.length <= n /\ ∀ x ∈ a.args, x.wt <= n := by
 have e := Tm.wt_eq a
 refine ⟨by omega, fun x hx => ?_⟩
 have := zb2 Tm.wt a.args x hx
 omega
theorem Fm.wt_parts {f : Fm} {n : Nat} (h : f.wt <= n) : f.atom.wt <= n /\ f.parts.length <= n /\ ∀ x ∈ f.parts, x.wt <= n := by
 have e := Fm.wt_eq f
 refine ⟨by omega, by omega, fun x hx => ?_⟩
 have := zb2 Fm.wt f.parts x hx
 omega
set_option maxRecDepth 10000 in
theorem zn6 (xs : List Tm) (H : ∀ x ∈ xs, FC Tryz.prog 166 [tmD x] [tmD x]) (hs : xs.length <= 1048576) :
  FC Tryz.prog 231 [.one (tmS xs)] [.one (tmS xs)] := by
 by_cases h0 : xs = []
 ·subst h0
  refine zah Tryz.call231 Tryz.func231 rfl (by kernel_rfl) (zat (by kernel_rfl)) ?_
  simp -implicitDefEqProofs only [go_sem, Tryz.results231]
 ·have hp : ((xs.length : Int) == 0) = false := by
   have : 0 < xs.length := List.length_pos_iff.2 h0
   simp; omega
  refine zah Tryz.call231 Tryz.func231 rfl (by kernel_rfl) (zat (by kernel_rfl)) ?_
  simp -implicitDefEqProofs only [go_sem, Tryz.results231, hp]
  refine qkl (by simp -implicitDefEqProofs only [go_sem]; omega) ?_
  simp -implicitDefEqProofs only [go_sem]
  refine zaf (fun k : Nat => hd [(12, vT (tmS xs)), (13, vI xs.length), (3, .one (.ow 352 0)), (14, vI k)] [] [(352, ⟨true, 2, (xs.take k).map tmC ++ List.replicate (xs.length - k) [T.str [], T.sl 2 []], 0, true⟩)]) (fun k => k <= xs.length) (fun k => xs.length - k) 0 (zac ?_) ?_ ?_
  ·simp -implicitDefEqProofs only [go_sem]
   simp
  ·simp
  ·intro k hk
   by_cases hlt : k < xs.length
   ·have hlen : ((xs.take k).map tmC ++ List.replicate (xs.length - k) [T.str [], T.sl 2 []]).length = xs.length := by simp; omega
    have hlt2 : k < k + (xs.length - k) := by omega
    simp -implicitDefEqProofs only [go_sem, List.length_map, zad, hlt, zab]
    refine callF (H xs[k] (List.getElem_mem hlt)) (by simp -implicitDefEqProofs only [go_sem, zab, hlen, hlt, List.length_append, List.length_map, List.length_take, List.length_replicate, Nat.min_eq_left hk, hlt2]) ?_
    simp -implicitDefEqProofs only [go_sem, zab, hlen, hlt, List.length_append, List.length_map, List.length_take, List.length_replicate, Nat.min_eq_left hk, hlt2]
    refine zj9 (by simp -implicitDefEqProofs only [go_sem]; simp) ?_
    simp -implicitDefEqProofs only [go_sem]
    rw [zav (by omega)]
    refine ⟨k + 1, by omega, by omega, zac ?_⟩
    simp -implicitDefEqProofs only [go_sem]
    have hf := zgz ((xs.take k).map tmC) xs.length k [T.str [], T.sl 2 []] (tmC xs[k]) (by simp; omega) hlt (by simp [zab])
    simp only [zab] at hf
    rw [hf, List.take_succ_eq_append_getElem hlt, List.map_append, List.map_singleton]
    simp only [zab]
   ·simp -implicitDefEqProofs only [go_sem, List.length_map, hlt]
    simp [List.take_of_length_le (show xs.length <= k by omega), show xs.length - k = 0 by omega]
theorem zp8 (a : Tm) (H : FC Tryz.prog 231 [.one (tmS a.args)] [.one (tmS a.args)]) : FC Tryz.prog 166 [tmD a] [tmD a] := by
 simp only [tmD, zab a]
 refine zah Tryz.call166 Tryz.func166 rfl (by kernel_rfl) (zat (by kernel_rfl)) ?_
 simp -implicitDefEqProofs only [go_sem, Tryz.results166]
 refine drawn (by kernel_rfl) ?_
 simp -implicitDefEqProofs only [go_sem]
 refine zan (H) (by simp -implicitDefEqProofs only [go_sem]) ?_
 simp -implicitDefEqProofs only [go_sem]
 kernel_rfl
theorem qeq (a : Tm) (H : ∀ x ∈ a.args, FC Tryz.prog 155 [tmD x] [tmD x]) (hs : a.args.length <= 1048576) : FC Tryz.prog 155 [tmD a] [tmD a] := by
 simp only [tmD, zab a]
 refine zah Tryz.call155 Tryz.func155 rfl (by kernel_rfl) (zat (by kernel_rfl)) ?_
 simp -implicitDefEqProofs only [go_sem, Tryz.results155]
 refine zaf (fun k : Nat => hd [(1, .one (.bx 1 0)), (2, .one (.bx 2 0)), (3, .one (.bx 3 0)), (4, vI k)] [(1, [.t (.str a.name), .t (tmS a.args)]), (2, [.t (.str []), .nl 2]), (3, [.t (.str a.name), .ow 3000 0])] [(3000, ⟨true, 2, (a.args.take k).map tmC, 0, true⟩)]) (fun k => k <= a.args.length) (fun k => a.args.length - k) 0 (zac ?_) ?_ ?_
 ·simp -implicitDefEqProofs only [go_sem]
 ·simp
 ·intro k hk
  by_cases hlt : k < a.args.length
  ·simp -implicitDefEqProofs only [go_sem, hlt]
   refine drawn (by kernel_rfl) ?_
   have hmin : min k a.args.length <= 4294967295 := by omega
   simp -implicitDefEqProofs only [go_sem, zad, hlt, zab]
   refine zan (H a.args[k] (List.getElem_mem hlt)) (by simp -implicitDefEqProofs only [go_sem, zab]) ?_
   simp -implicitDefEqProofs only [go_sem, zab]
   refine zbt (by simp -implicitDefEqProofs only [go_sem]) ?_
   simp -implicitDefEqProofs only [go_sem]
   refine zp6 true (by simp -implicitDefEqProofs only [go_sem, ne_eq, List.length_map, List.length_take, hmin]) ?_
   simp -implicitDefEqProofs only [go_sem, ne_eq, List.length_map, List.length_take, hmin]
   refine ⟨by kernel_rfl, k + 1, hlt, by omega, zac ?_⟩
   simp -implicitDefEqProofs only [go_sem]
   rw [zav (by omega), List.take_succ_eq_append_getElem hlt, List.map_append, List.map_singleton]
   simp only [zab]
   trivial
  ·have ht : a.args.take k = a.args := List.take_of_length_le (by omega)
   simp -implicitDefEqProofs only [go_sem, hlt, ht]
theorem zib : ∀ a : Tm, a.wt <= 1048576 -> FC Tryz.prog 166 [tmD a] [tmD a] :=
 zby fun n xs ih hs => by
  obtain ⟨h1, h2⟩ := Tm.wt_args hs
  exact zp8 (.mk n xs) (zn6 xs (fun x hx => ih x hx (h2 x hx)) h1)
theorem zqn : ∀ a : Tm, a.wt <= 1048576 -> FC Tryz.prog 155 [tmD a] [tmD a] :=
 zby fun n xs ih hs => by
  obtain ⟨h1, h2⟩ := Tm.wt_args hs
  exact qeq (.mk n xs) (fun x hx => ih x hx (h2 x hx)) h1
set_option maxHeartbeats 1000000 in
theorem qeu (a : Fm) (H : ∀ x ∈ a.parts, FC Tryz.prog 152 [fmD x] [fmD x]) (h0 : a.atom.wt <= 1048576) (hs : a.parts.length <= 1048576) : FC Tryz.prog 152 [fmD a] [fmD a] := by
 simp only [fmD, zaa a]
 refine zah Tryz.call152 Tryz.func152 rfl (by kernel_rfl) (zat (by kernel_rfl)) ?_
 simp -implicitDefEqProofs only [go_sem, Tryz.results152]
 refine drawn (by kernel_rfl) ?_
 simp -implicitDefEqProofs only [go_sem]
 refine zan (zqn a.atom h0) (by simp -implicitDefEqProofs only [go_sem, zab]) ?_
 simp -implicitDefEqProofs only [go_sem, zab]
 refine ⟨by kernel_rfl, ?_⟩
 refine zaf (fun k : Nat => hd [(1, .one (.bx 1 0)), (2, .one (.bx 2 0)), (3, .one (.bx 3 0)), (4, vI k)] [(1, [.t (.int .i64 a.op), .t (.str a.atom.name), .t (tmS a.atom.args), .t (.str a.var), .t (fmS a.parts)]), (2, [.t (.int .i64 0), .t (.str []), .nl 2, .t (.str []), .nl 5]), (3, [.t (.int .i64 a.op), .t (.str a.atom.name), .ow 289 0, .t (.str a.var), .ow 3000 0])]
  [(289, ⟨true, 2, a.atom.args.map tmC, 0, true⟩), (3000, ⟨true, 5, (a.parts.take k).map fmC, 0, true⟩)]) (fun k => k <= a.parts.length) (fun k => a.parts.length - k) 0 (zac ?_) ?_ ?_
 ·simp -implicitDefEqProofs only [go_sem]
 ·simp
 ·intro k hk
  by_cases hlt : k < a.parts.length
  ·simp -implicitDefEqProofs only [go_sem, hlt]
   refine drawn (by kernel_rfl) ?_
   have hmin : min k a.parts.length <= 4294967295 := by omega
   simp -implicitDefEqProofs only [go_sem, zad, hlt, zaa]
   refine zan (H a.parts[k] (List.getElem_mem hlt)) (by simp -implicitDefEqProofs only [go_sem, zaa]) ?_
   simp -implicitDefEqProofs only [go_sem, zaa]
   refine zbt (by simp -implicitDefEqProofs only [go_sem]) ?_
   simp -implicitDefEqProofs only [go_sem]
   refine zp6 true (by simp -implicitDefEqProofs only [go_sem, ne_eq, List.length_map, List.length_take, hmin]) ?_
   simp -implicitDefEqProofs only [go_sem, ne_eq, List.length_map, List.length_take, hmin]
   refine ⟨by kernel_rfl, k + 1, hlt, by omega, zac ?_⟩
   simp -implicitDefEqProofs only [go_sem]
   rw [zav (by omega), List.take_succ_eq_append_getElem hlt, List.map_append, List.map_singleton]
   simp only [zaa]
   trivial
  ·have ht : a.parts.take k = a.parts := List.take_of_length_le (by omega)
   simp -implicitDefEqProofs only [go_sem, hlt, ht]
theorem zrj : ∀ a : Fm, a.wt <= 1048576 -> FC Tryz.prog 152 [fmD a] [fmD a] :=
 zce fun o t v ps ih hs => by
  obtain ⟨h1, h2, h3⟩ := Fm.wt_parts hs
  exact qeu (.mk o t v ps) (fun x hx => ih x hx (h3 x hx)) h1 h2
set_option maxHeartbeats 1000000 in
theorem zrd (a : Fm) (g : FuncId) (φ : Fm -> Fm) (H : ∀ x ∈ a.parts, FC Tryz.prog g [fmD x] [fmD (φ x)]) (h0 : a.atom.wt <= 1048576) (hs : a.parts.length <= 1048576) : FC Tryz.prog 127 [fmD a, .one (.fn g [])] [fmD (.mk a.op a.atom a.var (a.parts.map φ))] := by
 simp only [fmD, zaa a, zc9]
 refine zah Tryz.call127 Tryz.func127 rfl (by kernel_rfl) (zat (by kernel_rfl)) ?_
 simp -implicitDefEqProofs only [go_sem, Tryz.results127]
 refine drawn (by kernel_rfl) ?_
 simp -implicitDefEqProofs only [go_sem]
 refine zan (zib a.atom h0) (by simp -implicitDefEqProofs only [go_sem, zab]) ?_
 simp -implicitDefEqProofs only [go_sem, zab]
 refine ⟨by kernel_rfl, ?_⟩
 refine zaf (fun k : Nat => hd [(1, .one (.t (.fn g []))), (4, .one (.bx 4 0)), (5, .one (.bx 5 0)), (17, vT (fmS a.parts)), (18, vI a.parts.length), (19, vI k)] [(4, [.t (.int .i64 0), .t (.str []), .nl 2, .t (.str []), .nl 5]), (5, [.t (.int .i64 a.op), .t (.str a.atom.name), .ow 385 0, .t (.str a.var), .ow 3000 0])]
  [(385, ⟨true, 2, a.atom.args.map tmC, 0, true⟩), (3000, ⟨true, 5, (a.parts.take k).map fun x => fmC (φ x), 0, true⟩)]) (fun k => k <= a.parts.length) (fun k => a.parts.length - k) 0 (zac ?_) ?_ ?_
 ·simp -implicitDefEqProofs only [go_sem]
 ·simp
 ·intro k hk
  by_cases hlt : k < a.parts.length
  ·have hmin : min k a.parts.length <= 4294967295 := by omega
   simp -implicitDefEqProofs only [go_sem, zad, hlt, zaa a.parts[k]]
   refine drawn (by kernel_rfl) ?_
   simp -implicitDefEqProofs only [go_sem]
   refine zan (H a.parts[k] (List.getElem_mem hlt)) (by simp -implicitDefEqProofs only [go_sem, zaa]) ?_
   simp -implicitDefEqProofs only [go_sem, zaa]
   refine zbt (by simp -implicitDefEqProofs only [go_sem]) ?_
   simp -implicitDefEqProofs only [go_sem]
   refine zp6 true (by simp -implicitDefEqProofs only [go_sem, ne_eq, List.length_map, List.length_take, hmin]) ?_
   simp -implicitDefEqProofs only [go_sem, ne_eq, List.length_map, List.length_take, hmin]
   refine ⟨by kernel_rfl, k + 1, hlt, by omega, zac ?_⟩
   simp -implicitDefEqProofs only [go_sem]
   rw [zav (by omega), List.take_succ_eq_append_getElem hlt, List.map_append, List.map_singleton]
   simp only [zaa]
   trivial
  ·have ht : a.parts.take k = a.parts := List.take_of_length_le (by omega)
   simp -implicitDefEqProofs only [go_sem, hlt, ht]
   rfl
set_option maxRecDepth 10000 in
theorem zhj : ∀ a : Fm, a.wt <= 1048576 -> FC Tryz.prog 162 [fmD a] [fmD a] :=
 zce fun o t v ps ih hs => by
  obtain ⟨h1, h2, h3⟩ := Fm.wt_parts hs
  have H := zrd (.mk o t v ps) 162 (fun x => x) (fun x hx => ih x hx (h3 x hx)) h1 h2
  simp only [Fm.op, Fm.atom, Fm.var, Fm.parts, List.map_id'] at H
  simp only [fmD, zc9] at H ⊢
  refine zah Tryz.call162 Tryz.func162 rfl (by kernel_rfl) (zat (by kernel_rfl)) ?_
  simp -implicitDefEqProofs only [go_sem, Tryz.results162]
  refine callF (H) (by simp -implicitDefEqProofs only [go_sem]) ?_
  simp -implicitDefEqProofs only [go_sem]
  trace_state
end Go.Proofs.YtemnhgmgeijkcaaGreat
namespace Go.Proofs.YtemnhgmgeijkcaaGreat
set_option linter.unusedSimpArgs false
set_option linter.unusedVariables false
set_option linter.unusedSectionVars false
set_option maxRecDepth 4000
open Go.RowKit
theorem zp1 (ss : List Str) (hl : ss.length <= 1099511627776) : IC Tryz.prog 118 [] (.one (zcj ss)) [] (.one (zcj (zi4 ss))) [] :=
 qkd Tryz.call118 (fun blk off cap ss w h1 h2 h3 => Any.slices_Sort_string Tryz.lays190 blk off cap ss w h1 h2 h3) (fun p cap w => Any.slices_Sort_string_none Tryz.lays190 p cap w) ss (by omega)
theorem qje {P : Program} {t : TypeId} {n b : Nat} {z : List C} (h1 : zbr P t = some n) (h2 : zee P t = some b) (h3 : zc8 P t = some z) (h4 : z.length = n) : ∃ i0 zv, P.info? t = some i0 /\ i0.zero = some zv /\ zv.cells.size = n /\ i0.size = n /\ i0.bytes = b := by
 unfold zbr at h1
 unfold zee at h2
 unfold zc8 at h3
 cases hi : P.info? t with
 | none => rw [hi] at h1; cases h1
 | some i =>
  rw [hi] at h1 h2 h3
  simp only [Option.map_some, Option.some.injEq] at h1 h2
  simp only [Option.bind_some] at h3
  cases hz : i.zero with
  | none => rw [hz] at h3; cases h3
  | some zv =>
   rw [hz] at h3
   simp only [Option.map_some, Option.some.injEq] at h3
   refine ⟨i, zv, rfl, hz, ?_, h1, h2⟩
   rw [<- h4, <- h3]; simp
set_option maxHeartbeats 1000000 in
theorem zu1 : CloneOf Tryz.prog 120 1 16 := by
 have t22 := Tryz.underlying100
 have q22 : ∀ (w : World) (a : Option Addr) (n c n' c' : Nat), (binOp .eql 100 (.slice a n c) (.slice none n' c')).run Tryz.prog w = .ok (.bool a.isNone) w := fun w a n c n' c' => Lib.run_eql_slice_nil w _ _ a n c n' c' t22
 have u22 : ∀ w, Sem.run Tryz.prog (underlying 100) w = .ok (TypeDesc.slice 9) w := run_underlying t22
 refine ⟨Tryz.call120, fun ad n c news w hl hn hbig hc h1 => ?_, fun n c w => ?_⟩
 ·have A : Aside (∀ j u, news[j]? = some u -> w.cell? (ad.add j) = some u) := hc
  clear hc
  obtain ⟨i0, z, hi, hz0, hzs, hz1, hz2⟩ := qje (P := Tryz.prog) (t := 9) (n := 1) (b := 16) (z := [.t (.str [])]) (by kernel_rfl) (by kernel_rfl) (by kernel_rfl) rfl
  go_enter Tryz.func120, Tryz.ntmps120
  go_wp2_with (at_builtin; refine wpList_append_own _ rfl _ _ 100 rfl w.heap.size 9 i0 z 1 16 t22 hi hz0 hz1 hz2 hzs (by decide) _ _ _ rfl (World.ownsRow_made w #[] 0 (Nat.le_refl _) (Nat.zero_le _) (by simp)) ad n c news rfl ?qc1 ?qc2 ?qc3 ?qc4 ?qc5 ?qc6 ?_)
  case qc1 => exact hl
  case qc2 =>
   intro j u hj
   exact Lib.cell?_alloc_some _ (A.out j u hj)
  case qc3 => exact h1
  case qc4 => rw [Nat.zero_add]; exact hn
  case qc5 => rw [Nat.zero_add]; exact hbig
  case qc6 => simp
  intro v' w1 hown hgrow hnil
  go_wp2
  go_ret
  refine ⟨_, v', rfl, by simpa using hown, hnil, ?_⟩
  exact ((Below.refl _ w).alloc (Nat.le_refl _) _).grown hgrow (by simp) (by intro k hk; simp [Value.ownBlock] at hk; omega)
 ·go_enter Tryz.func120, Tryz.ntmps120
  go_wp2
  go_ret
  exact ⟨rfl, rfl⟩
theorem zvz (ss : List Str) : ∀ c ∈ (ss.map fun s => [T.str s]).flatten, c.flat = true := fun c hc => by
 rw [zka] at hc
 obtain ⟨s, _, rfl⟩ := List.mem_map.1 hc
 rfl
theorem zvq (ss : List Str) (hs : ss.length <= 1099511627776) : FC Tryz.prog 120 [.one (zcj ss)] [.one (zcj ss)] :=
 qe1 zu1 _ (by simp; omega) (zvz ss)
theorem ztk (xs : List Str) (s : Str) : FC Tryz.prog 160 [.one (zcj xs), sD s] [bD (xs.contains s)] := by
 refine zdx (fun hw => ?_) Tryz.call160
 have hl : xs.length <= 9223372036854775807 := by simpa [zhb, wfT] using hw.1.1
 refine zah Tryz.call160 Tryz.func160 rfl (by kernel_rfl) (zat (by kernel_rfl)) ?_
 simp -implicitDefEqProofs only [go_sem, Tryz.results160]
 refine zaf (fun k : Nat => hd [(0, vT (zcj xs)), (1, vT (.str s)), (5, vI k)] [] []) (fun k => k <= xs.length /\ s ∉ xs.take k) (fun k => xs.length - k) 0 (zac ?_) ?_ ?_
 ·simp -implicitDefEqProofs only [go_sem]
 ·simp
 ·intro k ⟨hk, hr⟩
  by_cases hlt : k < xs.length
  ·simp -implicitDefEqProofs only [go_sem, zad, hlt]
   refine ⟨fun h => ?_, fun h => ?_⟩
   ·have e : xs[k] = s := by simpa using h
    rw [List.contains_iff_mem.2 (e ▸ List.getElem_mem hlt)]
   ·have e : xs[k] ≠ s := by simpa using h
    exact ⟨k + 1, ⟨hlt, zho hlt hr e⟩, by omega, zac (by simp -implicitDefEqProofs only [go_sem]; rw [zav (by omega)])⟩
  ·simp -implicitDefEqProofs only [go_sem, hlt]
   rw [List.take_of_length_le (by omega)] at hr
   simpa using hr
theorem zed {α : Type} {p : α -> Bool} : ∀ {l : List α} {k : Nat}, k <= l.length -> (∀ x ∈ l.take k, p x = true) -> (∀ h : k < l.length, p l[k] = false) -> l.takeWhile p = l.take k /\ l.dropWhile p = l.drop k
 | [], k, hk, _, _ => by simp
 | a :: l, 0, hk, _, h2 => by have := h2 (by simp); simp only [List.getElem_cons_zero] at this; simp [this]
 | a :: l, k + 1, hk, h1, h2 => by
  have ha := h1 a (by simp)
  obtain ⟨e1, e2⟩ := zed (l := l) (k := k) (by simpa using hk) (fun x hx => h1 x (by simp [hx])) (fun h => h2 (by simpa using h))
  simp [ha, e1, e2]
theorem zwv {l : List Str} {s : Str} {k : Nat} (hk : k <= l.length) (h1 : ∀ x ∈ l.take k, Op.bytesLess x s = true) (h2 : ∀ h : k < l.length, Op.bytesLess l[k] s = false) : zsm l s = if (l.drop k).head? = some s then l else l.take k ++ [s] ++ l.drop k := by
 obtain ⟨e1, e2⟩ := zed (p := fun x => Op.bytesLess x s) hk h1 h2
 unfold zsm
 rw [e1, e2]
theorem flR_of {rows : List (List T)} (h : ∀ r ∈ rows, r.all T.flat = true) : flR rows = true := by
 induction rows with
 | nil => rfl
 | cons r rs ih => unfold flR; rw [h r (by simp), ih fun r hr => h r (by simp [hr])]; rfl
theorem zcu (l : List Str) : flR (l.map fun s => [T.str s]) = true := flR_of fun r hr => by obtain ⟨s, _, rfl⟩ := List.mem_map.1 hr; rfl
theorem zcd (k : Nat) (l : List Str) : flR ((l.map fun s => [T.str s]).take k) = true := by rw [<- List.map_take]; exact zcu _
theorem zcg (k : Nat) (l : List Str) : flR ((l.map fun s => [T.str s]).drop k) = true := by rw [<- List.map_drop]; exact zcu _
theorem ze8 {α β : Type} (f : α -> β) (l : List α) : (l.map f).take l.length = l.map f := List.take_of_length_le (by simp)
theorem zxo (l : List Str) (s : Str) (hl : l.length <= 2147483648) : GC Tryz.prog 274 [(true, .one (zcj l)), (false, sD s)] [.one (zcj (zsm l s))] := by
 refine qe4 Tryz.call274 Tryz.func274 rfl (by kernel_rfl) (by simp only [List.length_cons, List.length_nil, Tryz.ntmps274]; omega) (by simp [zb5, T.isPin]) ?_
 simp -implicitDefEqProofs only [go_sem, Tryz.results274]
 refine zaf (fun k : Nat => hd [(0, .one (.ow 0 0)), (1, vT (.str s)), (5, vI k)] [] [(0, ⟨true, 1, l.map fun s => [.str s], 0, true⟩)]) (fun k => k <= l.length /\ ∀ x ∈ l.take k, Op.bytesLess x s = true) (fun k => l.length - k) 0 (zac ?_) ?_ ?_
 ·simp -implicitDefEqProofs only [go_sem]
 ·simp
 ·intro k ⟨hk, hr⟩
  have hm1 : min k l.length <= 4294967296 := by omega
  have hm2 : min k l.length <= 4294967295 := by omega
  have hm3 : min k l.length + 1 + (l.length - k) <= 4294967296 := by omega
  by_cases hlt : k < l.length
  ·have hnx : ∀ {b}, Op.bytesLess l[k] s = b -> b = true -> ∀ x ∈ l.take (k + 1), Op.bytesLess x s = true := fun {b} e hb x hx => by
    rw [List.take_succ_eq_append_getElem hlt] at hx
    rcases List.mem_append.1 hx with hx | hx
    ·exact hr x hx
    ·rw [List.mem_singleton.1 hx, e, hb]
   simp -implicitDefEqProofs only [go_sem, zad, hlt]
   refine ⟨fun h => ⟨k + 1, ⟨hlt, hnx rfl h⟩, by omega, zac (by simp -implicitDefEqProofs only [go_sem]; rw [zav (by omega)])⟩, fun h => ?_⟩
   have hp := zwv hk hr (fun _ => h)
   have hh : (l.drop k).head? = some l[k] := by rw [List.head?_drop, List.getElem?_eq_getElem hlt]
   refine ⟨fun h2 => ?_, fun h2 => ?_⟩
   ·rw [hp, if_pos (by rw [hh]; simpa using h2)]
   ·rw [if_neg (by rw [hh]; simpa using h2)] at hp
    refine frzD 0 ?_
    simp -implicitDefEqProofs only [go_sem]
    refine drawn (by kernel_rfl) ?_
    simp -implicitDefEqProofs only [go_sem, hk]
    refine zbt (by simp -implicitDefEqProofs only [go_sem, hk]) ?_
    simp -implicitDefEqProofs only [go_sem, hk]
    refine zp6 true (by simp -implicitDefEqProofs only [go_sem, hk, ne_eq, Nat.zero_add, hm1, hm2, hm3, zcd, zcg, ze8, List.length_drop, List.length_take, List.length_append, List.length_map]) ?_
    simp -implicitDefEqProofs only [go_sem, hk, ne_eq, Nat.zero_add, hm1, hm2, hm3, zcd, zcg, ze8, List.length_drop, List.length_take, List.length_append, List.length_map]
    refine zbt (by simp -implicitDefEqProofs only [go_sem, hk]) ?_
    simp -implicitDefEqProofs only [go_sem, hk]
    refine zp6 true (by simp -implicitDefEqProofs only [go_sem, hk, ne_eq, Nat.zero_add, hm1, hm2, hm3, zcd, zcg, ze8, List.length_drop, List.length_take, List.length_append, List.length_map]) ?_
    simp -implicitDefEqProofs only [go_sem, hk, ne_eq, Nat.zero_add, hm1, hm2, hm3, zcd, zcg, ze8, List.length_drop, List.length_take, List.length_append, List.length_map]
    refine zp6 true (by simp -implicitDefEqProofs only [go_sem, hk, ne_eq, Nat.zero_add, hm1, hm2, hm3, zcd, zcg, ze8, List.length_drop, List.length_take, List.length_append, List.length_map]) ?_
    simp -implicitDefEqProofs only [go_sem, hk, ne_eq, Nat.zero_add, hm1, hm2, hm3, zcd, zcg, ze8, List.length_drop, List.length_take, List.length_append, List.length_map]
    refine ⟨by kernel_rfl, ?_⟩
    rw [hp]; simp
  ·simp -implicitDefEqProofs only [go_sem, hlt]
   have hp := zwv hk hr (fun h => absurd h hlt)
   rw [if_neg (by rw [List.drop_of_length_le (by omega)]; simp)] at hp
   refine frzD 0 ?_
   simp -implicitDefEqProofs only [go_sem]
   refine drawn (by kernel_rfl) ?_
   simp -implicitDefEqProofs only [go_sem, hk]
   refine zbt (by simp -implicitDefEqProofs only [go_sem, hk]) ?_
   simp -implicitDefEqProofs only [go_sem, hk]
   refine zp6 true (by simp -implicitDefEqProofs only [go_sem, hk, ne_eq, Nat.zero_add, hm1, hm2, hm3, zcd, zcg, ze8, List.length_drop, List.length_take, List.length_append, List.length_map]) ?_
   simp -implicitDefEqProofs only [go_sem, hk, ne_eq, Nat.zero_add, hm1, hm2, hm3, zcd, zcg, ze8, List.length_drop, List.length_take, List.length_append, List.length_map]
   refine zbt (by simp -implicitDefEqProofs only [go_sem, hk]) ?_
   simp -implicitDefEqProofs only [go_sem, hk]
   refine zp6 true (by simp -implicitDefEqProofs only [go_sem, hk, ne_eq, Nat.zero_add, hm1, hm2, hm3, zcd, zcg, ze8, List.length_drop, List.length_take, List.length_append, List.length_map]) ?_
   simp -implicitDefEqProofs only [go_sem, hk, ne_eq, Nat.zero_add, hm1, hm2, hm3, zcd, zcg, ze8, List.length_drop, List.length_take, List.length_append, List.length_map]
   refine zp6 true (by simp -implicitDefEqProofs only [go_sem, hk, ne_eq, Nat.zero_add, hm1, hm2, hm3, zcd, zcg, ze8, List.length_drop, List.length_take, List.length_append, List.length_map]) ?_
   simp -implicitDefEqProofs only [go_sem, hk, ne_eq, Nat.zero_add, hm1, hm2, hm3, zcd, zcg, ze8, List.length_drop, List.length_take, List.length_append, List.length_map]
   refine ⟨by kernel_rfl, ?_⟩
   rw [hp]; simp
end Go.Proofs.YtemnhgmgeijkcaaGreat
namespace Go.Proofs.YtemnhgmgeijkcaaGreat
set_option linter.unusedSimpArgs false
set_option linter.unusedVariables false
set_option linter.unusedSectionVars false
set_option maxRecDepth 4000
open Go.RowKit
theorem qh7 {b : UInt8} (h1 : decide ((b.toNat : Int) < 65) = false) (h2 : decide ((90 : Int) < b.toNat) = false) : zkv b = true := by
 simp [zkv] at *; omega
theorem qcw {b : UInt8} (h1 : decide ((b.toNat : Int) < 65) = true) : zkv b = false := by
 simp [zkv] at *; omega
theorem qfr {b : UInt8} (h2 : decide ((90 : Int) < b.toNat) = true) : zkv b = false := by
 simp [zkv] at *; omega
theorem qfd {b : UInt8} (h1 : decide ((b.toNat : Int) < 97) = false) (h2 : decide ((122 : Int) < b.toNat) = false) : zfm b = true := by
 simp [zfm] at *; omega
theorem zz8 {b : UInt8} (h1 : decide ((b.toNat : Int) < 97) = true) : zfm b = false := by
 simp [zfm] at *; omega
theorem zx2 {b : UInt8} (h2 : decide ((122 : Int) < b.toNat) = true) : zfm b = false := by
 simp [zfm] at *; omega
theorem ztx {s : Str} (h : 0 < s.length) : zr6 s = (zkv (s.getD 0 0) && (s.drop 1).all zm5) := by
 cases s
 ·exact absurd h (by simp)
 ·rfl
theorem zof {s : Str} (h : 0 < s.length) : zkk s = (zfm (s.getD 0 0) && (s.drop 1).all zmw) := by
 cases s
 ·exact absurd h (by simp)
 ·rfl
theorem zh8 (s : Str) : FC Tryz.prog 225 [sD s] [bD (zbi s)] := by
 refine zdx (fun hw => ?_) Tryz.call225
 have hl : s.length <= 9223372036854775807 := by simpa [zhb, wfT] using hw.1
 refine zah Tryz.call225 Tryz.func225 rfl (by kernel_rfl) (zat (by kernel_rfl)) ?_
 simp -implicitDefEqProofs only [go_sem, Tryz.results225]
 refine callF (zef s.length 1 4) (by simp -implicitDefEqProofs only [go_sem]) ?_
 simp -implicitDefEqProofs only [go_sem]
 by_cases hb : inB s.length 1 4 = true
 ·have hp : 0 < s.length := by simp [inB] at hb; omega
  have hp' : (0 : Int) < s.length := by omega
  have he := ztx hp
  refine ⟨fun h => ⟨hp', fun h1 => ⟨hp', fun h2 => ?_, fun h2 => ?_⟩, fun h1 => ?_⟩, fun h => by simp [hb] at h⟩
  ·rw [zbi, he, qfr h2]; rfl
  ·rw [qh7 h1 h2, Bool.true_and] at he
   refine zaf (fun k : Nat => hd [(0, vT (.str s)), (3, vI k)] [] []) (fun k => k <= s.length /\ zr6 s = (s.drop k).all zm5) (fun k => s.length - k) 1 (zac ?_) ?_ ?_
   ·simp -implicitDefEqProofs only [go_sem]
   ·exact ⟨hp, he⟩
   ·intro k ⟨hk, hr⟩
    by_cases hlt : k < s.length
    ·have hg : s.getD k 0 = s[k] := by simp [List.getD, hlt]
     rw [List.drop_eq_getElem_cons hlt, List.all_cons] at hr
     simp -implicitDefEqProofs only [go_sem, hlt]
     simp only [hg]
     refine callF (zob s[k]) (by simp -implicitDefEqProofs only [go_sem]) ?_
     simp -implicitDefEqProofs only [go_sem]
     refine ⟨fun h => ?_, fun h => ⟨k + 1, ⟨hlt, ?_⟩, by omega, zac (by simp -implicitDefEqProofs only [go_sem]; rw [zav (by omega)])⟩⟩
     ·have : zm5 s[k] = false := by simpa using h
      rw [zbi, hr, this]; rfl
     ·have : zm5 s[k] = true := by simpa using h
      rw [hr, this]; rfl
    ·simp -implicitDefEqProofs only [go_sem, hlt]
     rw [zbi, hr, List.drop_of_length_le (by omega), hb]; rfl
  ·rw [zbi, he, qcw h1]; rfl
 ·have hb' : inB s.length 1 4 = false := by simpa using hb
  refine ⟨fun h => by simp [hb'] at h, fun h => ?_⟩
  rw [zbi, hb', Bool.and_false]
set_option maxHeartbeats 1000000 in
theorem zk4 (s : Str) : FC Tryz.prog 240 [sD s] [bD (zc0 s)] := by
 refine zdx (fun hw => ?_) Tryz.call240
 have hl : s.length <= 9223372036854775807 := by simpa [zhb, wfT] using hw.1
 refine zah Tryz.call240 Tryz.func240 rfl (by kernel_rfl) (zat (by kernel_rfl)) ?_
 simp -implicitDefEqProofs only [go_sem, Tryz.results240]
 refine callF (zef s.length 1 6) (by simp -implicitDefEqProofs only [go_sem]) ?_
 simp -implicitDefEqProofs only [go_sem]
 by_cases hb : inB s.length 1 6 = true
 ·have hp : 0 < s.length := by simp [inB] at hb; omega
  have hp' : (0 : Int) < s.length := by omega
  have he := zof hp
  refine ⟨fun h => ⟨hp', fun h1 => ⟨hp', fun h2 => ?_, fun h2 => ?_⟩, fun h1 => ?_⟩, fun h => by simp [hb] at h⟩
  ·rw [zc0, he, zx2 h2]; rfl
  ·rw [qfd h1 h2, Bool.true_and] at he
   have leaf : ∀ l, l ∈ zrp -> (s == l) = true -> T.bool false = T.bool (zc0 s) := fun l hl e => by
    have : zrp.contains s = true := by rw [List.contains_iff_mem, beq_iff_eq.1 e]; exact hl
    rw [zc0, this, Bool.not_true, Bool.and_false]
   refine ⟨fun e => ⟨fun _ => leaf _ (by simp [zrp]) e, fun e' => absurd (e.symm.trans e') (by simp)⟩, fun n1 => ?_⟩
   refine ⟨fun e => ⟨fun _ => leaf _ (by simp [zrp]) e, fun e' => absurd (e.symm.trans e') (by simp)⟩, fun n2 => ?_⟩
   refine ⟨fun e => ⟨fun _ => leaf _ (by simp [zrp]) e, fun e' => absurd (e.symm.trans e') (by simp)⟩, fun n3 => ?_⟩
   refine ⟨fun e => ⟨fun _ => leaf _ (by simp [zrp]) e, fun e' => absurd (e.symm.trans e') (by simp)⟩, fun n4 => ?_⟩
   refine ⟨fun e => ⟨fun _ => leaf _ (by simp [zrp]) e, fun e' => absurd (e.symm.trans e') (by simp)⟩, fun n5 => ?_⟩
   refine ⟨fun e => ⟨fun _ => leaf _ (by simp [zrp]) e, fun e' => absurd (e.symm.trans e') (by simp)⟩, fun n6 => ?_⟩
   refine ⟨fun e => ⟨fun _ => leaf _ (by simp [zrp]) e, fun e' => absurd (e.symm.trans e') (by simp)⟩, fun n7 => ?_⟩
   refine ⟨fun e => leaf _ (by simp [zrp]) e, fun n8 => ?_⟩
   have hnc : zrp.contains s = false := by
    simp only [beq_eq_false_iff_ne, ne_eq] at n1 n2 n3 n4 n5 n6 n7 n8
    rw [Bool.eq_false_iff, ne_eq, List.contains_iff_mem]
    simp only [zrp, List.mem_cons, List.not_mem_nil, or_false, not_or]
    exact ⟨n1, n2, n3, n4, n5, n6, n7, n8⟩
   refine zaf (fun k : Nat => hd [(0, vT (.str s)), (3, vI k)] [] []) (fun k => k <= s.length /\ zkk s = (s.drop k).all zmw) (fun k => s.length - k) 1 (zac ?_) ?_ ?_
   ·simp -implicitDefEqProofs only [go_sem]
   ·exact ⟨hp, he⟩
   ·intro k ⟨hk, hr⟩
    by_cases hlt : k < s.length
    ·have hg : s.getD k 0 = s[k] := by simp [List.getD, hlt]
     rw [List.drop_eq_getElem_cons hlt, List.all_cons] at hr
     simp -implicitDefEqProofs only [go_sem, hlt]
     simp only [hg]
     refine callF (zob s[k]) (by simp -implicitDefEqProofs only [go_sem]) ?_
     simp -implicitDefEqProofs only [go_sem]
     simp only [hg]
     refine ⟨fun h => ⟨hlt, fun h' => ?_, fun h' => ⟨k + 1, ⟨hlt, ?_⟩, by omega, zac (by simp -implicitDefEqProofs only [go_sem]; rw [zav (by omega)])⟩⟩, fun h => ⟨k + 1, ⟨hlt, ?_⟩, by omega, zac (by simp -implicitDefEqProofs only [go_sem]; rw [zav (by omega)])⟩⟩
     ·have : zmw s[k] = false := by
       simp [zmw] at h ⊢
       refine ⟨h, fun e => ?_⟩
       rw [e] at h'
       simp at h'
      rw [zc0, hr, this]; rfl
     ·have : zmw s[k] = true := by
       have := qiv (b := s[k]) (n := 95) (by omega)
       simp [zmw] at h' ⊢
       right
       simpa [h'] using this
      rw [hr, this]; rfl
     ·have : zmw s[k] = true := by simp [zmw]; simp at h; simp [h]
      rw [hr, this]; rfl
    ·simp -implicitDefEqProofs only [go_sem, hlt]
     rw [zc0, hr, List.drop_of_length_le (by omega), hb, hnc]; rfl
  ·rw [zc0, he, zz8 h1]; rfl
 ·have hb' : inB s.length 1 6 = false := by simpa using hb
  refine ⟨fun h => by simp [hb'] at h, fun h => ?_⟩
  rw [zc0, hb', Bool.and_false]; rfl
end Go.Proofs.YtemnhgmgeijkcaaGreat
namespace Go.Proofs.YtemnhgmgeijkcaaGreat
set_option linter.unusedSimpArgs false
set_option linter.unusedVariables false
set_option linter.unusedSectionVars false
set_option maxRecDepth 4000
open Go.RowKit
def Tm.nodes : Tm -> Nat := Tm.fold fun _ _ rs => 1 + rs.sum
theorem Tm.nodes_eq (a : Tm) : a.nodes = 1 + (a.args.map Tm.nodes).sum := Tm.fold_eq _ a
def Tm.depth : Tm -> Nat := Tm.fold fun _ _ rs => rs.foldl max 0 + 1
theorem Tm.depth_eq (a : Tm) : a.depth = (a.args.map Tm.depth).foldl max 0 + 1 := Tm.fold_eq _ a
theorem ze1 : ∀ a : Tm, a.nodes <= 1 + a.wt := by
 refine zby fun n xs ih => ?_
 rw [Tm.nodes_eq, Tm.wt_eq]
 show 1 + (xs.map Tm.nodes).sum <= 1 + (n.length + xs.length + (xs.map Tm.wt).sum)
 have : (xs.map Tm.nodes).sum <= xs.length + (xs.map Tm.wt).sum := by
  clear n
  induction xs with
  | nil => simp
  | cons x xs ih2 =>
   have h1 := ih x (by simp)
   have h2 := ih2 fun y hy => ih y (by simp [hy])
   simp only [List.map_cons, List.sum_cons, List.length_cons]
   omega
 omega
theorem zix {B : Nat} : ∀ (xs : List Nat) (m : Nat), m <= B -> (∀ x ∈ xs, x <= B) -> xs.foldl max m <= B
 | [], m, h, _ => h
 | x :: xs, m, h, h2 => zix xs (max m x) (by have := h2 x (by simp); omega) fun y hy => h2 y (by simp [hy])
theorem zkn : ∀ a : Tm, a.depth <= a.nodes := by
 refine zby fun n xs ih => ?_
 rw [Tm.nodes_eq, Tm.depth_eq]
 show (xs.map Tm.depth).foldl max 0 + 1 <= 1 + (xs.map Tm.nodes).sum
 have := zix (B := (xs.map Tm.nodes).sum) (xs.map Tm.depth) 0 (by omega) fun d hd => by
  obtain ⟨x, hx, rfl⟩ := List.mem_map.1 hd
  exact Nat.le_trans (ih x hx) (zb2 Tm.nodes xs x hx)
 omega
def szL (lim : Int) : Int -> List Int -> Int
 | n, [] => n
 | n, r :: rs => if n > lim then n else szL lim (n + r) rs
def zfu : Tm -> Int := Tm.fold fun _ _ rs => szL 30 1 rs
theorem zs1 (a : Tm) : zfu a = szL 30 1 (a.args.map zfu) := Tm.fold_eq _ a
theorem znk {α : Type} (f : α -> Int) (g : α -> Nat) (lim : Int) : ∀ (xs : List α) (n : Int), 0 <= n -> (∀ x ∈ xs, 1 <= f x /\ f x <= g x /\ (f x <= lim -> f x = g x)) -> szL lim n (xs.map f) <= n + (xs.map g).sum /\ n <= szL lim n (xs.map f) /\ (szL lim n (xs.map f) <= lim -> szL lim n (xs.map f) = n + (xs.map g).sum)
 | [], n, _, _ => by simp [szL]
 | x :: xs, n, hn, h => by
  obtain ⟨h1, h2, h3⟩ := h x (by simp)
  obtain ⟨k1, k2, k3⟩ := znk f g lim xs (n + f x) (by omega) fun y hy => h y (by simp [hy])
  simp only [List.map_cons, szL, List.sum_cons]
  split
  ·refine ⟨by omega, by omega, fun hh => by omega⟩
  ·refine ⟨by omega, by omega, fun hh => ?_⟩
   have := k3 hh
   rw [this]
   have : f x = g x := h3 (by omega)
   omega
theorem zlt : ∀ a : Tm, 1 <= zfu a /\ zfu a <= a.nodes /\ (zfu a <= 30 -> zfu a = a.nodes) := by
 refine zby fun n xs ih => ?_
 rw [zs1, Tm.nodes_eq]
 show 1 <= szL 30 1 (xs.map zfu) /\ szL 30 1 (xs.map zfu) <= ((1 + (xs.map Tm.nodes).sum : Nat) : Int) /\ _
 obtain ⟨k1, k2, k3⟩ := znk zfu Tm.nodes 30 xs 1 (by omega) ih
 refine ⟨k2, by omega, fun h => ?_⟩
 have := k3 h
 show szL 30 1 (xs.map zfu) = _
 rw [this]; show _ = ((1 + (xs.map Tm.nodes).sum : Nat) : Int); omega
theorem qcg (a : Tm) : decide (zfu a <= 30) = decide (a.nodes <= 30) := by
 obtain ⟨h1, h2, h3⟩ := zlt a
 rw [decide_eq_decide]
 exact ⟨fun h => by have := h3 h; omega, fun h => by omega⟩
def qdf {α : Type} (f : α -> Nat) (xs : List α) (k : Nat) : Nat := ((xs.drop k).map f).sum
theorem zhc {α : Type} (f : α -> Nat) (xs : List α) : qdf f xs 0 = (xs.map f).sum := by simp [qdf]
theorem zng {α : Type} (f : α -> Nat) (xs : List α) (k : Nat) (h : k < xs.length) : qdf f xs k = f xs[k] + qdf f xs (k + 1) := by
 unfold qdf
 rw [List.drop_eq_getElem_cons h, List.map_cons, List.sum_cons]
set_option maxHeartbeats 400000 in
theorem qi8 (a : Tm) (hs : a.wt <= 1099511627776) (H : ∀ x ∈ a.args, FC Tryz.prog 259 [tmD x] [iD (zfu x)]) : FC Tryz.prog 259 [tmD a] [iD (zfu a)] := by
 refine zdx (fun hw => ?_) Tryz.call259
 have hl : a.args.length <= 9223372036854775807 := by rw [Tm.wt_eq] at hs; omega
 have hn := ze1 a
 have hN := a.nodes_eq
 simp only [tmD, zab]
 refine zah Tryz.call259 Tryz.func259 rfl (by kernel_rfl) (zat (by kernel_rfl)) ?_
 simp -implicitDefEqProofs only [go_sem, Tryz.results259]
 refine zaf (fun p : Nat × Int => hd [(3, vI p.2), (7, vT (tmS a.args)), (8, vI a.args.length), (9, vI p.1)] [] []) (fun p => p.1 <= a.args.length /\ zfu a = szL 30 p.2 ((a.args.drop p.1).map zfu) /\ 1 <= p.2 /\ p.2 + qdf Tm.nodes a.args p.1 <= a.nodes) (fun p => a.args.length - p.1) (0, 1) (zac ?_) ?_ ?_
 ·simp -implicitDefEqProofs only [go_sem]
 ·exact ⟨by simp, by rw [zs1]; rfl, by omega, by rw [zhc]; omega⟩
 ·intro ⟨k, n⟩ ⟨hk, hr, h1, h2⟩
  simp only at hk hr h1 h2
  by_cases hlt : k < a.args.length
  ·have hd := zng Tm.nodes a.args k hlt
   obtain ⟨s1, s2, s3⟩ := zlt a.args[k]
   rw [List.drop_eq_getElem_cons hlt, List.map_cons, szL] at hr
   simp -implicitDefEqProofs only [go_sem, zad, hlt, zab]
   refine ⟨fun h => ?_, fun h => ?_⟩
   ·rw [hr, if_pos (by simpa using h)]
   ·refine callF (H a.args[k] (List.getElem_mem hlt)) (by simp -implicitDefEqProofs only [go_sem, zab]) ?_
    simp -implicitDefEqProofs only [go_sem, zab]
    rw [if_neg (by simpa using h)] at hr
    exact ⟨(k + 1, n + zfu a.args[k]), ⟨hlt, hr, by simp only; omega, by simp only; omega⟩, by simp only; omega, zac (by simp -implicitDefEqProofs only [go_sem]; rw [zav (by omega), zbl (by omega) (by omega)]; exact ⟨rfl, rfl⟩)⟩
  ·simp -implicitDefEqProofs only [go_sem, hlt]
   rw [hr, List.drop_of_length_le (by omega)]; rfl
theorem size_c : ∀ a : Tm, a.wt <= 1099511627776 -> FC Tryz.prog 259 [tmD a] [iD (zfu a)] :=
 zby fun n xs ih hs => qi8 (.mk n xs) hs fun x hx => ih x hx (by
  have := Tm.wt_eq (.mk n xs)
  have := zb2 Tm.wt xs x hx
  simp only [Tm.args] at *; omega)
set_option maxHeartbeats 400000 in
theorem qes (a : Tm) (hs : a.wt <= 1099511627776) (H : ∀ x ∈ a.args, FC Tryz.prog 260 [tmD x] [iD x.depth]) : FC Tryz.prog 260 [tmD a] [iD a.depth] := by
 have hl : a.args.length <= 9223372036854775807 := by rw [Tm.wt_eq] at hs; omega
 have hn := ze1 a
 have hdn := zkn a
 have hD := a.depth_eq
 simp only [tmD, zab]
 refine zah Tryz.call260 Tryz.func260 rfl (by kernel_rfl) (zat (by kernel_rfl)) ?_
 simp -implicitDefEqProofs only [go_sem, Tryz.results260]
 refine zaf (fun p : Nat × Nat => hd [(3, vI p.2), (7, vT (tmS a.args)), (8, vI a.args.length), (9, vI p.1)] [] []) (fun p => p.1 <= a.args.length /\ a.depth = ((a.args.drop p.1).map Tm.depth).foldl max p.2 + 1) (fun p => a.args.length - p.1) (0, 0) (zac ?_) ?_ ?_
 ·simp -implicitDefEqProofs only [go_sem]
 ·exact ⟨by simp, hD⟩
 ·intro ⟨k, n⟩ ⟨hk, hr⟩
  simp only at hk hr
  by_cases hlt : k < a.args.length
  ·rw [List.drop_eq_getElem_cons hlt, List.map_cons, List.foldl_cons] at hr
   simp -implicitDefEqProofs only [go_sem, zad, hlt, zab]
   refine callF (H a.args[k] (List.getElem_mem hlt)) (by simp -implicitDefEqProofs only [go_sem, zab]) ?_
   simp -implicitDefEqProofs only [go_sem, zab]
   exact ⟨(k + 1, max n a.args[k].depth), ⟨hlt, hr⟩, by simp only; omega, zac (by simp -implicitDefEqProofs only [go_sem]; rw [zav (by omega)]; exact ⟨by congr 1; omega, rfl⟩)⟩
  ·simp -implicitDefEqProofs only [go_sem, hlt]
   rw [List.drop_of_length_le (by omega)] at hr
   simp only [List.map_nil, List.foldl_nil] at hr
   rw [hr, zav (by omega)]
theorem qjq : ∀ a : Tm, a.wt <= 1099511627776 -> FC Tryz.prog 260 [tmD a] [iD a.depth] :=
 zby fun n xs ih hs => qes (.mk n xs) hs fun x hx => ih x hx (by
  have := Tm.wt_eq (.mk n xs)
  have := zb2 Tm.wt xs x hx
  simp only [Tm.args] at *; omega)
def zdr (a : Tm) : Bool := decide (a.nodes <= 30) && decide (a.depth <= 8)
theorem zpf (a : Tm) (hs : a.wt <= 1099511627776) : FC Tryz.prog 188 [tmD a] [bD (zdr a)] := by
 simp only [tmD, zab]
 refine zah Tryz.call188 Tryz.func188 rfl (by kernel_rfl) (zat (by kernel_rfl)) ?_
 simp -implicitDefEqProofs only [go_sem, Tryz.results188]
 refine callF (size_c a hs) (by simp -implicitDefEqProofs only [go_sem, zab]) ?_
 simp -implicitDefEqProofs only [go_sem, zab]
 rw [qcg]
 refine ⟨fun h => ?_, fun h => ?_⟩
 ·refine callF (qjq a hs) (by simp -implicitDefEqProofs only [go_sem, zab]) ?_
  simp -implicitDefEqProofs only [go_sem, zab]
  rw [zdr, h, Bool.true_and]
  congr 1
  rw [decide_eq_decide]; omega
 ·rw [zdr, h]; rfl
end Go.Proofs.YtemnhgmgeijkcaaGreat
namespace Go.Proofs.YtemnhgmgeijkcaaGreat
set_option linter.unusedSimpArgs false
set_option linter.unusedVariables false
set_option linter.unusedSectionVars false
set_option maxRecDepth 4000
open Go.RowKit
theorem qd0 (σ : St) (caps : List T) : VDs σ (caps.map fun t => .one (.t t)) (caps.map .one) = True := by
 induction caps with
 | nil => simp [VDs]
 | cons t ts ih => rw [List.map_cons, List.map_cons, ztt, ih]; simp [qgg, CT_t]
attribute [go_sem] qd0
def ze9 {α : Type} (xs : List α) (p : α -> Bool) : Int := if xs.any p then xs.findIdx p else -1
theorem zd0 {α : Type} {xs : List α} {p : α -> Bool} {k : Nat} (hk : k < xs.length) (hn : ∀ x ∈ xs.take k, p x = false) (h : p xs[k] = true) : ze9 xs p = k := by
 have ha : xs.any p = true := List.any_eq_true.2 ⟨xs[k], List.getElem_mem hk, h⟩
 have hf : xs.findIdx p = k := (List.findIdx_eq hk).2 ⟨h, fun j hj => hn _ (by
  rw [List.mem_take_iff_getElem]; exact ⟨j, by omega, rfl⟩)⟩
 rw [ze9, if_pos ha, hf]
theorem zcn {α : Type} {xs : List α} {p : α -> Bool} (hn : ∀ x ∈ xs, p x = false) : ze9 xs p = -1 := by
 have ha : xs.any p = false := by rw [List.any_eq_false]; exact fun x hx => by simp [hn x hx]
 rw [ze9, ha]; rfl
theorem ztr {α : Type} (xs : List α) (p : α -> Bool) : decide (0 <= ze9 xs p) = xs.any p := by
 unfold ze9
 cases xs.any p <;> simp
theorem zbu {α : Type} {xs : List α} {p : α -> Bool} {k : Nat} (hk : k < xs.length) (hn : ∀ x ∈ xs.take k, p x = false) (h : p xs[k] = false) : ∀ x ∈ xs.take (k + 1), p x = false := by
 rw [List.take_succ_eq_append_getElem hk]
 intro x hx
 rcases List.mem_append.1 hx with hx | hx
 ·exact hn x hx
 ·rw [List.mem_singleton.1 hx]; exact h
theorem zjo (xs : List Tm) (p : Tm -> Bool) (g : FuncId) (caps : List T) (H : ∀ x ∈ xs, FC Tryz.prog g (tmD x :: caps.map .one) [bD (p x)]) : FC Tryz.prog 122 [.one (tmS xs), .one (.fn g caps)] [iD (ze9 xs p)] := by
 refine zdx (fun hw => ?_) Tryz.call122
 have hl : xs.length <= 9223372036854775807 := by simpa [zhb, wfT] using hw.1.1
 refine zah Tryz.call122 Tryz.func122 rfl (by kernel_rfl) (zat (by kernel_rfl)) ?_
 simp -implicitDefEqProofs only [go_sem, Tryz.results122]
 refine zaf (fun k : Nat => hd [(0, vT (tmS xs)), (1, vT (.fn g caps)), (7, vI xs.length), (8, vI k)] [] []) (fun k => k <= xs.length /\ ∀ x ∈ xs.take k, p x = false) (fun k => xs.length - k) 0 (zac ?_) ?_ ?_
 ·simp -implicitDefEqProofs only [go_sem]
 ·simp
 ·intro k ⟨hk, hr⟩
  by_cases hlt : k < xs.length
  ·simp -implicitDefEqProofs only [go_sem, zad, hlt, zab]
   refine callF (H xs[k] (List.getElem_mem hlt)) (by simp -implicitDefEqProofs only [go_sem, zab]) ?_
   simp -implicitDefEqProofs only [go_sem, zab]
   refine ⟨fun h => ?_, fun h => ⟨k + 1, ⟨hlt, zbu hlt hr h⟩, by omega, zac (by simp -implicitDefEqProofs only [go_sem]; rw [zav (by omega)])⟩⟩
   rw [zd0 hlt hr h]
  ·simp -implicitDefEqProofs only [go_sem, hlt]
   rw [List.take_of_length_le (by omega)] at hr
   rw [zcn hr]
theorem zhz (xs : List Tm) (p : Tm -> Bool) (g : FuncId) (caps : List T) (H : ∀ x ∈ xs, FC Tryz.prog g (tmD x :: caps.map .one) [bD (p x)]) : FC Tryz.prog 66 [.one (tmS xs), .one (.fn g caps)] [bD (xs.any p)] := by
 refine zah Tryz.call66 Tryz.func66 rfl (by kernel_rfl) (zat (by kernel_rfl)) ?_
 simp -implicitDefEqProofs only [go_sem, Tryz.results66]
 refine callF (zjo xs p g caps H) (by simp -implicitDefEqProofs only [go_sem]) ?_
 simp -implicitDefEqProofs only [go_sem]
 rw [ztr]
theorem zeg (xs : List Fm) (p : Fm -> Bool) (g : FuncId) (caps : List T) (H : ∀ x ∈ xs, FC Tryz.prog g (fmD x :: caps.map .one) [bD (p x)]) : FC Tryz.prog 202 [.one (fmS xs), .one (.fn g caps)] [iD (ze9 xs p)] := by
 refine zdx (fun hw => ?_) Tryz.call202
 have hl : xs.length <= 9223372036854775807 := by simpa [zhb, wfT] using hw.1.1
 refine zah Tryz.call202 Tryz.func202 rfl (by kernel_rfl) (zat (by kernel_rfl)) ?_
 simp -implicitDefEqProofs only [go_sem, Tryz.results202]
 refine zaf (fun k : Nat => hd [(0, vT (fmS xs)), (1, vT (.fn g caps)), (7, vI xs.length), (8, vI k)] [] []) (fun k => k <= xs.length /\ ∀ x ∈ xs.take k, p x = false) (fun k => xs.length - k) 0 (zac ?_) ?_ ?_
 ·simp -implicitDefEqProofs only [go_sem]
 ·simp
 ·intro k ⟨hk, hr⟩
  by_cases hlt : k < xs.length
  ·simp -implicitDefEqProofs only [go_sem, zad, hlt, zaa, zab]
   refine callF (H xs[k] (List.getElem_mem hlt)) (by simp -implicitDefEqProofs only [go_sem, zaa, zab]) ?_
   simp -implicitDefEqProofs only [go_sem, zaa, zab]
   refine ⟨fun h => ?_, fun h => ⟨k + 1, ⟨hlt, zbu hlt hr h⟩, by omega, zac (by simp -implicitDefEqProofs only [go_sem]; rw [zav (by omega)])⟩⟩
   rw [zd0 hlt hr h]
  ·simp -implicitDefEqProofs only [go_sem, hlt]
   rw [List.take_of_length_le (by omega)] at hr
   rw [zcn hr]
theorem zas (xs : List Fm) (p : Fm -> Bool) (g : FuncId) (caps : List T) (H : ∀ x ∈ xs, FC Tryz.prog g (fmD x :: caps.map .one) [bD (p x)]) : FC Tryz.prog 140 [.one (fmS xs), .one (.fn g caps)] [bD (xs.any p)] := by
 refine zah Tryz.call140 Tryz.func140 rfl (by kernel_rfl) (zat (by kernel_rfl)) ?_
 simp -implicitDefEqProofs only [go_sem, Tryz.results140]
 refine callF (zeg xs p g caps H) (by simp -implicitDefEqProofs only [go_sem]) ?_
 simp -implicitDefEqProofs only [go_sem]
 rw [ztr]
end Go.Proofs.YtemnhgmgeijkcaaGreat
namespace Go.Proofs.YtemnhgmgeijkcaaGreat
set_option linter.unusedSimpArgs false
set_option linter.unusedVariables false
set_option linter.unusedSectionVars false
set_option maxRecDepth 4000
open Go.RowKit
def Tm.names : Tm -> Bool := Tm.fold fun n xs rs => if zbi n = true then decide (xs.length = 0) else zc0 n && decide (xs.length <= 4) && rs.all id
theorem Tm.names_eq (a : Tm) : a.names = if zbi a.name = true then decide (a.args.length = 0) else zc0 a.name && decide (a.args.length <= 4) && a.args.all Tm.names := by
 unfold Tm.names
 rw [Tm.fold_eq]
 simp only [List.all_map]
 rfl
theorem zdp {α : Type} (xs : List α) (p : α -> Bool) : (!xs.any fun x => !p x) = xs.all p := by
 induction xs with
 | nil => rfl
 | cons x xs ih => simp only [List.any_cons, List.all_cons, Bool.not_or, Bool.not_not, ih]
theorem zrq (a : Tm) (H : ∀ x ∈ a.args, FC Tryz.prog 189 [tmD x] [bD x.names]) : FC Tryz.prog 189 [tmD a] [bD a.names] := by
 have H1 : ∀ x ∈ a.args, FC Tryz.prog 262 [tmD x] [bD (!x.names)] := fun x hx => by
  simp only [tmD, zab]
  refine zah Tryz.call262 Tryz.func262 rfl (by kernel_rfl) (zat (by kernel_rfl)) ?_
  simp -implicitDefEqProofs only [go_sem, Tryz.results262]
  refine callF (H x hx) (by simp -implicitDefEqProofs only [go_sem, zab]) ?_
  simp -implicitDefEqProofs only [go_sem, zab]
 have hN := a.names_eq
 simp only [tmD, zab]
 refine zah Tryz.call189 Tryz.func189 rfl (by kernel_rfl) (zat (by kernel_rfl)) ?_
 simp -implicitDefEqProofs only [go_sem, Tryz.results189]
 refine callF (zdl a.name) (by simp -implicitDefEqProofs only [go_sem]) ?_
 simp -implicitDefEqProofs only [go_sem]
 refine ⟨fun h => ?_, fun h => ?_⟩
 ·rw [hN, if_pos h]
  congr 1
  rw [Bool.eq_iff_iff]; simp
 ·rw [h] at hN
  simp only [Bool.false_eq_true, if_false] at hN
  refine callF (zln a.name) (by simp -implicitDefEqProofs only [go_sem]) ?_
  simp -implicitDefEqProofs only [go_sem]
  refine ⟨fun h1 => ⟨fun h2 => ?_, fun h2 => ?_⟩, fun h1 => ?_⟩
  ·refine callF (zhz a.args (fun x => !x.names) _ [] H1) (by simp -implicitDefEqProofs only [go_sem]) ?_
   simp -implicitDefEqProofs only [go_sem]
   rw [zdp, hN, h1, Bool.true_and]
   rw [show decide (a.args.length <= 4) = true by simp at h2 ⊢; omega]; rfl
  ·rw [hN, h1, Bool.true_and, show decide (a.args.length <= 4) = false by simp at h2 ⊢; omega]; rfl
  ·rw [hN, h1]; rfl
theorem zh7 : ∀ a : Tm, FC Tryz.prog 189 [tmD a] [bD a.names] := zby fun n xs ih => zrq (.mk n xs) ih
def Tm.good (a : Tm) : Bool := zdr a && a.names
theorem zhq (a : Tm) (hs : a.wt <= 1099511627776) : FC Tryz.prog 123 [tmD a] [bD a.good] := by
 simp only [tmD, zab]
 refine zah Tryz.call123 Tryz.func123 rfl (by kernel_rfl) (zat (by kernel_rfl)) ?_
 simp -implicitDefEqProofs only [go_sem, Tryz.results123]
 refine callF (zpf a hs) (by simp -implicitDefEqProofs only [go_sem, zab]) ?_
 simp -implicitDefEqProofs only [go_sem, zab]
 refine ⟨fun h => ?_, fun h => ?_⟩
 ·refine callF (zh7 a) (by simp -implicitDefEqProofs only [go_sem, zab]) ?_
  simp -implicitDefEqProofs only [go_sem, zab]
  rw [Tm.good, h, Bool.true_and]
 ·rw [Tm.good, h, Bool.false_and]
theorem zov (a : Tm) : FC Tryz.prog 284 [tmD a] [bD (a.name == [61])] := by
 simp only [tmD, zab]
 refine zah Tryz.call284 Tryz.func284 rfl (by kernel_rfl) (zat (by kernel_rfl)) ?_
 simp -implicitDefEqProofs only [go_sem, Tryz.results284]
def Tm.atomOk (a : Tm) : Bool := if (a.name == [61]) = true then decide (a.args.length = 2) && zdr a && a.args.all Tm.names else zc0 a.name && a.good
theorem zzi {α : Type} {xs : List α} {p : α -> Bool} (h : xs.length = 2) : xs.all p = (p (xs[0]'(by omega)) && p (xs[1]'(by omega))) := by
 match xs, h with
 | [a, b], _ => simp
theorem zmn (a : Tm) (hs : a.wt <= 1099511627776) : FC Tryz.prog 244 [tmD a] [bD a.atomOk] := by
 have hN : a.atomOk = if (a.name == [61]) = true then decide (a.args.length = 2) && zdr a && a.args.all Tm.names else zc0 a.name && a.good := rfl
 simp only [tmD, zab]
 refine zah Tryz.call244 Tryz.func244 rfl (by kernel_rfl) (zat (by kernel_rfl)) ?_
 simp -implicitDefEqProofs only [go_sem, Tryz.results244]
 refine callF (zov a) (by simp -implicitDefEqProofs only [go_sem, zab]) ?_
 simp -implicitDefEqProofs only [go_sem, zab]
 refine ⟨fun h => ?_, fun h => ?_⟩
 ·rw [if_pos h] at hN
  by_cases h2 : a.args.length = 2
  ·have k0 : 0 < a.args.length := by omega
   have k1 : 1 < a.args.length := by omega
   have e2 : ((a.args.length : Int) == 2) = true := by simp [h2]
   have l0 : (0 : Int) < a.args.length := by omega
   have l1 : (1 : Int) < a.args.length := by omega
   rw [zzi h2, show decide (a.args.length = 2) = true by simp [h2]] at hN
   simp only [Bool.true_and] at hN
   simp only [e2, qao, zfv, qko, zev, and_true]
   refine callF (zpf a hs) (by simp -implicitDefEqProofs only [go_sem, zab, l0, zad, k0]) ?_
   simp -implicitDefEqProofs only [go_sem, zab, l0, zad, k0]
   refine ⟨fun h3 => ?_, fun h3 => ?_⟩
   ·refine callF (zh7 a.args[0]) (by simp -implicitDefEqProofs only [go_sem, zab, l1, zad, k1]) ?_
    simp -implicitDefEqProofs only [go_sem, zab, l1, zad, k1]
    refine ⟨fun h4 => ?_, fun h4 => ?_⟩
    ·refine callF (zh7 a.args[1]) (by simp -implicitDefEqProofs only [go_sem, zab]) ?_
     simp -implicitDefEqProofs only [go_sem, zab]
     rw [hN, h3, h4]; rfl
    ·rw [hN, h3, h4]; rfl
   ·rw [hN, h3]; rfl
  ·have e2 : ((a.args.length : Int) == 2) = false := by simp; omega
   simp only [e2, qao, qit, zfv, zev, and_true, true_and, qj0]
   rw [hN, show decide (a.args.length = 2) = false by simpa using h2]; rfl
 ·rw [h] at hN
  simp only [Bool.false_eq_true, if_false] at hN
  refine callF (zln a.name) (by simp -implicitDefEqProofs only [go_sem]) ?_
  simp -implicitDefEqProofs only [go_sem]
  refine ⟨fun h3 => ?_, fun h3 => ?_⟩
  ·refine callF (zhq a hs) (by simp -implicitDefEqProofs only [go_sem, zab]) ?_
   simp -implicitDefEqProofs only [go_sem, zab]
   rw [hN, h3, Bool.true_and]
  ·rw [hN, h3, Bool.false_and]
def Tm.none (a : Tm) : Bool := a.name == [] && decide (a.args.length = 0)
theorem zaz (a : Tm) : FC Tryz.prog 203 [tmD a] [bD a.none] := by
 simp only [tmD, zab]
 refine zah Tryz.call203 Tryz.func203 rfl (by kernel_rfl) (zat (by kernel_rfl)) ?_
 simp -implicitDefEqProofs only [go_sem, Tryz.results203]
 unfold Tm.none
 refine ⟨fun h => ?_, fun h => ?_⟩
 ·rw [h, Bool.true_and]
  congr 1
  rw [Bool.eq_iff_iff]; simp
 ·rw [h]; rfl
def isQ (n : Int) : Bool := n == 8 || n == 9
def znn (n : Int) : Bool := n == 5 || n == 6 || n == 7
theorem zap (n : Int) : FC Tryz.prog 232 [iD n] [bD (isQ n)] := by
 refine zah Tryz.call232 Tryz.func232 rfl (by kernel_rfl) (zat (by kernel_rfl)) ?_
 simp -implicitDefEqProofs only [go_sem, Tryz.results232]
 unfold isQ
 refine ⟨fun h => ?_, fun h => ?_⟩ <;> simp [h]
theorem zf3 (n : Int) : FC Tryz.prog 243 [iD n] [bD (znn n)] := by
 refine zah Tryz.call243 Tryz.func243 rfl (by kernel_rfl) (zat (by kernel_rfl)) ?_
 simp -implicitDefEqProofs only [go_sem, Tryz.results243]
 unfold znn
 refine ⟨fun h => ⟨fun h2 => ?_, fun h2 => ?_⟩, fun h => ?_⟩ <;> simp [*]
end Go.Proofs.YtemnhgmgeijkcaaGreat
namespace Go.Proofs.YtemnhgmgeijkcaaGreat
set_option linter.unusedSimpArgs false
set_option linter.unusedVariables false
set_option linter.unusedSectionVars false
set_option maxRecDepth 4000
open Go.RowKit
def voI : Tm -> List Str := Tm.fold fun n xs rs => if (decide (xs.length = 0) && zkv (n.getD 0 0)) = true then [n] else rs.flatten
theorem qaq (a : Tm) : voI a = if (decide (a.args.length = 0) && zkv (a.name.getD 0 0)) = true then [a.name] else (a.args.map voI).flatten := Tm.fold_eq _ a
def voS : Tm -> List Str := Tm.fold fun n _ rs => if zbi n = true then [n] else rs.flatten
theorem zse (a : Tm) : voS a = if zbi a.name = true then [a.name] else (a.args.map voS).flatten := Tm.fold_eq _ a
def Tm.ne : Tm -> Bool := Tm.fold fun n xs rs => (!decide (xs.length = 0) || decide (0 < n.length)) && rs.all id
theorem Tm.ne_eq' (a : Tm) : a.ne = ((!decide (a.args.length = 0) || decide (0 < a.name.length)) && a.args.all Tm.ne) := by
 unfold Tm.ne
 rw [Tm.fold_eq]
 simp only [List.all_map]
 rfl
def zrs (l : List Str) (s : Str) : List Str := if l.contains s = true then l else l ++ [s]
def zcw (l : List Str) (ss : List Str) : List Str := ss.foldl zrs l
theorem qcq (l : List Str) (s : Str) : (zrs l s).length <= l.length + 1 := by unfold zrs; split <;> simp
theorem zd2 : ∀ (ss : List Str) (l : List Str), (zcw l ss).length <= l.length + ss.length
 | [], l => by simp [zcw]
 | s :: ss, l => by have := zd2 ss (zrs l s); have := qcq l s; simp only [zcw, List.foldl_cons, List.length_cons] at *; omega
theorem zh2 (l a b : List Str) : zcw l (a ++ b) = zcw (zcw l a) b := List.foldl_append ..
theorem qdm (l : List Str) (s x : Str) : x ∈ zrs l s ↔ x = s \/ x ∈ l := by
 unfold zrs
 split
 ·rename_i h
  have h : s ∈ l := by simpa using h
  exact ⟨Or.inr, fun k => k.elim (fun e => e ▸ h) id⟩
 ·simp [or_comm]
theorem zp4 : ∀ (ss l : List Str) (x : Str), x ∈ zcw l ss ↔ x ∈ ss \/ x ∈ l
 | [], l, x => by simp [zcw]
 | s :: ss, l, x => by
  show x ∈ zcw (zrs l s) ss ↔ _
  rw [zp4 ss, qdm]; simp [or_assoc, or_left_comm, or_comm]
theorem qjn {l : List Str} (h : l.Nodup) (s : Str) : (zrs l s).Nodup := by
 unfold zrs
 split
 ·exact h
 ·rename_i hn
  have hn : s ∉ l := by simpa using hn
  exact List.nodup_append.2 ⟨h, by simp, fun a ha b hb e => hn (by rw [List.mem_singleton.1 hb] at e; exact e ▸ ha)⟩
theorem zte : ∀ (ss : List Str) {l : List Str}, l.Nodup -> (zcw l ss).Nodup
 | [], _, h => h
 | s :: ss, _, h => zte ss (qjn h s)
def zba (l : List Str) (ss : List Str) : List Str := ss.foldl zsm l
theorem ztp (l : List Str) (s : Str) : (zsm l s).length <= l.length + 1 := by
 unfold zsm
 split
 ·omega
 ·have : l.length = ((l.takeWhile fun x => Op.bytesLess x s) ++ l.dropWhile fun x => Op.bytesLess x s).length := by rw [List.takeWhile_append_dropWhile]
  simp only [List.length_append, List.length_cons, List.length_nil] at *; omega
theorem zco : ∀ (ss : List Str) (l : List Str), (zba l ss).length <= l.length + ss.length
 | [], l => by simp [zba]
 | s :: ss, l => by have := zco ss (zsm l s); have := ztp l s; simp only [zba, List.foldl_cons, List.length_cons] at *; omega
theorem zer (l a b : List Str) : zba l (a ++ b) = zba (zba l a) b := List.foldl_append ..
theorem zfj : ∀ (ss l : List Str) (x : Str), x ∈ zba l ss ↔ x ∈ ss \/ x ∈ l
 | [], l, x => by simp [zba]
 | s :: ss, l, x => by
  show x ∈ zba (zsm l s) ss ↔ _
  rw [zfj ss, qdw]; simp [or_assoc, or_left_comm, or_comm]
theorem zpt : ∀ (ss : List Str) {l : List Str}, Srt l -> Srt (zba l ss)
 | [], _, h => h
 | s :: ss, _, h => zpt ss (qfw h s)
theorem zuh (ss : List Str) : zi4 (zcw [] ss) = zba [] ss :=
 qh6 (zyu (zte ss List.nodup_nil)) (zpt ss List.Pairwise.nil) fun s => by rw [qbk, zp4, zfj]
theorem qiy (a : Tm) (h : 0 < a.name.length) : FC Tryz.prog 190 [tmD a] [bD (zkv (a.name.getD 0 0))] := by
 simp only [tmD, zab]
 refine zah Tryz.call190 Tryz.func190 rfl (by kernel_rfl) (zat (by kernel_rfl)) ?_
 simp -implicitDefEqProofs only [go_sem, Tryz.results190]
 have h0 : (0 : Int) < a.name.length := by omega
 simp -implicitDefEqProofs only [go_sem, h0, h]
 refine callF (zn0 (a.name.getD 0 0)) (by simp -implicitDefEqProofs only [go_sem]) ?_
 simp -implicitDefEqProofs only [go_sem]
theorem zcy {α : Type} (f : α -> List Str) (xs : List α) (k : Nat) (h : k < xs.length) : ((xs.take (k + 1)).map f).flatten = ((xs.take k).map f).flatten ++ f xs[k] := by
 rw [List.take_succ_eq_append_getElem h, List.map_append, List.flatten_append]; simp
theorem zrv {α : Type} (f : α -> List Str) : ∀ (xs : List α), ∀ x ∈ xs, (f x).length <= ((xs.map f).flatten).length
 | [], x, h => by simp at h
 | a :: xs, x, h => by
  rcases List.mem_cons.1 h with rfl | h
  ·simp
  ·have := zrv f xs x h; simp at *; omega
theorem zb8 {α : Type} (f : α -> List Str) (xs : List α) (k : Nat) (h : k < xs.length) : (((xs.take k).map f).flatten).length + (f xs[k]).length <= ((xs.map f).flatten).length := by
 have e : xs = xs.take k ++ xs[k] :: xs.drop (k + 1) := by rw [<- List.drop_eq_getElem_cons h, List.take_append_drop]
 conv => rhs; rw [e]
 simp only [List.map_append, List.map_cons, List.flatten_append, List.flatten_cons, List.length_append]; omega
set_option maxHeartbeats 1000000 in
theorem zu8 (a : Tm) (ha : a.ne = true) (H : ∀ x ∈ a.args, ∀ ys : List Str, ys.length + (voI x).length <= 1073741824 -> GC Tryz.prog 124 [(true, .one (zcj ys)), (false, tmD x)] [.one (zcj (zcw ys (voI x)))])
  (ys : List Str) (hs : ys.length + (voI a).length <= 1073741824) (hl : a.args.length <= 1099511627776) : GC Tryz.prog 124 [(true, .one (zcj ys)), (false, tmD a)] [.one (zcj (zcw ys (voI a)))] := by
 have hv := qaq a
 rw [Tm.ne_eq'] at ha
 simp only [tmD, zab]
 refine zuf Tryz.call124 Tryz.func124 rfl (by kernel_rfl) (by simp only [List.length_cons, List.length_nil, Tryz.ntmps124]; omega) (by simp [zb5, T.isPin]) ?_
 simp -implicitDefEqProofs only [go_sem, Tryz.results124]
 by_cases h0 : a.args.length = 0
 ·have hn : 0 < a.name.length := by simp [h0] at ha; omega
  have e0 : ((a.args.length : Int) == 0) = true := by simp [h0]
  have hV := qiy a hn
  simp only [tmD, zab] at hV
  simp -implicitDefEqProofs only [go_sem, e0]
  refine callF (hV) (by simp -implicitDefEqProofs only [go_sem]) ?_
  simp -implicitDefEqProofs only [go_sem]
  refine ⟨fun h1 => ?_, fun h1 => ?_⟩
  ·rw [h1, show decide (a.args.length = 0) = true by simpa using h0, Bool.true_and, if_pos rfl] at hv
   rw [hv] at hs ⊢
   refine callF (zcr ys a.name) (by simp -implicitDefEqProofs only [go_sem]) ?_
   simp -implicitDefEqProofs only [go_sem]
   have hy : ys.length + 1 <= 4294967296 := by simp at hs; omega
   have hy2 : ys.length <= 4294967295 := by simp at hs; omega
   refine ⟨fun h2 => ?_, fun h2 => ?_⟩
   ·have h2 : ys.contains a.name = false := by simpa using h2
    refine zaj (by simp -implicitDefEqProofs only [go_sem]) ?_
    simp -implicitDefEqProofs only [go_sem]
    refine apD true (by simp -implicitDefEqProofs only [go_sem, hy, hy2, ne_eq, List.length_map]) ?_
    simp -implicitDefEqProofs only [go_sem, hy, hy2, ne_eq, List.length_map]
    have e : zcw ys [a.name] = ys ++ [a.name] := by show zrs ys a.name = _; unfold zrs; rw [h2]; simp
    exact Or.inl (by rw [e]; simp)
   ·have h2 : ys.contains a.name = true := by simpa using h2
    have e : zcw ys [a.name] = ys := by show zrs ys a.name = _; unfold zrs; rw [h2]; simp
    exact Or.inl (by rw [e])
  ·rw [h1, Bool.and_false, if_neg (by simp), List.length_eq_zero_iff.1 h0, List.map_nil, List.flatten_nil] at hv
   have hv : voI a = (a.args.map voI).flatten := by rw [hv, List.length_eq_zero_iff.1 h0]; rfl
   rw [hv] at hs ⊢
   refine zaf (fun k : Nat => hd [(0, .one (.ow 0 0)), (27, .one (.rn (tmS a.args))), (28, vI a.args.length), (29, vI k)] [] [(0, ⟨true, 1, (zcw ys ((a.args.take k).map voI).flatten).map fun s => [.str s], 0, true⟩)]) (fun k => k <= a.args.length) (fun k => a.args.length - k) 0 (zac ?_) (Nat.zero_le _) ?_
   ·simp -implicitDefEqProofs only [go_sem]
    rfl
   ·intro k hk
    by_cases hlt : k < a.args.length
    ·have hf := zb8 voI a.args k hlt
     have hL := zd2 ((a.args.take k).map voI).flatten ys
     have hx := zrv voI a.args _ (List.getElem_mem hlt)
     have HC := H a.args[k] (List.getElem_mem hlt) (zcw ys ((a.args.take k).map voI).flatten) (by omega)
     rw [<- zh2, <- zcy voI a.args k hlt] at HC
     simp only [tmD, zab a.args[k]] at HC
     simp -implicitDefEqProofs only [go_sem, zad, hlt, zab a.args[k]]
     refine zdi [27, 28, 29] [33, 34] [] (HC) (by simp -implicitDefEqProofs only [go_sem]) (by simp -implicitDefEqProofs only [go_sem]) (by simp -implicitDefEqProofs only [go_sem]) (by simp -implicitDefEqProofs only [go_sem]) ?_
     simp -implicitDefEqProofs only [go_sem]
     refine ⟨k + 1, hlt, by omega, zc4 0 1120 ?_⟩
     simp -implicitDefEqProofs only [go_sem]
     rw [zav (by omega)]
    ·simp -implicitDefEqProofs only [go_sem, hlt]
     exact Or.inl (by rw [List.take_of_length_le (by omega)])
 ·have e0 : ((a.args.length : Int) == 0) = false := by simp [h0]
  rw [show decide (a.args.length = 0) = false by simpa using h0, Bool.false_and, if_neg (by simp)] at hv
  rw [hv] at hs ⊢
  simp -implicitDefEqProofs only [go_sem, e0]
  refine zaf (fun k : Nat => hd [(0, .one (.ow 0 0)), (27, .one (.rn (tmS a.args))), (28, vI a.args.length), (29, vI k)] [] [(0, ⟨true, 1, (zcw ys ((a.args.take k).map voI).flatten).map fun s => [.str s], 0, true⟩)]) (fun k => k <= a.args.length) (fun k => a.args.length - k) 0 (zac ?_) (Nat.zero_le _) ?_
  ·simp -implicitDefEqProofs only [go_sem]
   rfl
  ·intro k hk
   by_cases hlt : k < a.args.length
   ·have hf := zb8 voI a.args k hlt
    have hL := zd2 ((a.args.take k).map voI).flatten ys
    have hx := zrv voI a.args _ (List.getElem_mem hlt)
    have HC := H a.args[k] (List.getElem_mem hlt) (zcw ys ((a.args.take k).map voI).flatten) (by omega)
    rw [<- zh2, <- zcy voI a.args k hlt] at HC
    simp only [tmD, zab a.args[k]] at HC
    simp -implicitDefEqProofs only [go_sem, zad, hlt, zab a.args[k]]
    refine zdi [27, 28, 29] [33, 34] [] (HC) (by simp -implicitDefEqProofs only [go_sem]) (by simp -implicitDefEqProofs only [go_sem]) (by simp -implicitDefEqProofs only [go_sem]) (by simp -implicitDefEqProofs only [go_sem]) ?_
    simp -implicitDefEqProofs only [go_sem]
    refine ⟨k + 1, hlt, by omega, zc4 0 1120 ?_⟩
    simp -implicitDefEqProofs only [go_sem]
    rw [zav (by omega)]
   ·simp -implicitDefEqProofs only [go_sem, hlt]
    exact Or.inl (by rw [List.take_of_length_le (by omega)])
theorem zzs : ∀ a : Tm, a.ne = true -> a.wt <= 1099511627776 -> ∀ ys : List Str, ys.length + (voI a).length <= 1073741824 -> GC Tryz.prog 124 [(true, .one (zcj ys)), (false, tmD a)] [.one (zcj (zcw ys (voI a)))] :=
 zby fun n xs ih ha hw ys hs => zu8 (.mk n xs) ha (fun x hx ys hs => ih x hx (by rw [Tm.ne_eq', Bool.and_eq_true] at ha; exact List.all_eq_true.1 ha.2 x hx) (by
  have := Tm.wt_eq (.mk n xs)
  have := zb2 Tm.wt xs x hx
  simp only [Tm.args] at *; omega) ys hs) ys hs (by have := Tm.wt_eq (.mk n xs); omega)
theorem zql (a : Tm) (ha : a.ne = true) (hw : a.wt <= 1099511627776) (hs : (voI a).length <= 1073741824) : FC Tryz.prog 246 [tmD a] [.one (zcj (zba [] (voI a)))] := by
 have HC := zzs a ha hw [] (by simpa using hs)
 have HS := zp1 (zcw [] (voI a)) (by have := zd2 (voI a) []; simp at this; omega)
 rw [zuh] at HS
 simp only [tmD, zab] at HC ⊢
 refine zgf Tryz.call246 Tryz.func246 rfl (by kernel_rfl) (zat (by kernel_rfl)) ?_
 simp -implicitDefEqProofs only [go_sem, Tryz.results246]
 refine zaj (by simp -implicitDefEqProofs only [go_sem]) ?_
 simp -implicitDefEqProofs only [go_sem]
 refine zdi [] [4, 5] [] (HC) (by simp -implicitDefEqProofs only [go_sem]) (by simp -implicitDefEqProofs only [go_sem]) (by simp -implicitDefEqProofs only [go_sem]) (by simp -implicitDefEqProofs only [go_sem]) ?_
 simp -implicitDefEqProofs only [go_sem]
 refine qhl (HS) (by simp -implicitDefEqProofs only [go_sem, zcu]) (by simp -implicitDefEqProofs only [go_sem, zcu]) rfl ?_
 simp -implicitDefEqProofs only [go_sem, zcu]
theorem zw8 (a : Tm) (H : ∀ x ∈ a.args, ∀ ys : List Str, ys.length + (voS x).length <= 1073741824 -> GC Tryz.prog 241 [(true, .one (zcj ys)), (false, tmD x)] [.one (zcj (zba ys (voS x)))])
  (ys : List Str) (hs : ys.length + (voS a).length <= 1073741824) (hl : a.args.length <= 1099511627776) : GC Tryz.prog 241 [(true, .one (zcj ys)), (false, tmD a)] [.one (zcj (zba ys (voS a)))] := by
 have hv := zse a
 simp only [tmD, zab]
 refine zuf Tryz.call241 Tryz.func241 rfl (by kernel_rfl) (by simp only [List.length_cons, List.length_nil, Tryz.ntmps241]; omega) (by simp [zb5, T.isPin]) ?_
 simp -implicitDefEqProofs only [go_sem, Tryz.results241]
 refine callF (zh8 a.name) (by simp -implicitDefEqProofs only [go_sem]) ?_
 simp -implicitDefEqProofs only [go_sem]
 refine ⟨fun h => ?_, fun h => ?_⟩
 ·rw [if_pos h] at hv
  rw [hv] at hs ⊢
  refine zdi [] [9, 11] [] (zxo ys a.name (by simp at hs; omega)) (by simp -implicitDefEqProofs only [go_sem]) (by simp -implicitDefEqProofs only [go_sem]) (by simp -implicitDefEqProofs only [go_sem]) (by simp -implicitDefEqProofs only [go_sem]) ?_
  simp -implicitDefEqProofs only [go_sem]
  exact Or.inl rfl
 ·rw [h, if_neg (by simp)] at hv
  rw [hv] at hs ⊢
  refine zaf (fun k : Nat => hd [(0, .one (.ow 0 0)), (3, .one (.bx 3 0)), (5, vI k)] [(3, [.t (.str a.name), .rn (tmS a.args)])] [(0, ⟨true, 1, (zba ys ((a.args.take k).map voS).flatten).map fun s => [.str s], 0, true⟩)]) (fun k => k <= a.args.length) (fun k => a.args.length - k) 0 (zac ?_) (Nat.zero_le _) ?_
  ·simp -implicitDefEqProofs only [go_sem]
   rfl
  ·intro k hk
   by_cases hlt : k < a.args.length
   ·have hf := zb8 voS a.args k hlt
    have hL := zco ((a.args.take k).map voS).flatten ys
    have HC := H a.args[k] (List.getElem_mem hlt) (zba ys ((a.args.take k).map voS).flatten) (by omega)
    rw [<- zer, <- zcy voS a.args k hlt] at HC
    simp only [tmD, zab a.args[k]] at HC
    simp -implicitDefEqProofs only [go_sem, zad, hlt, zab a.args[k]]
    refine zdi [3, 5] [20, 25] [] (HC) (by simp -implicitDefEqProofs only [go_sem]) (by simp -implicitDefEqProofs only [go_sem]) (by simp -implicitDefEqProofs only [go_sem]) (by simp -implicitDefEqProofs only [go_sem]) ?_
    simp -implicitDefEqProofs only [go_sem]
    refine ⟨k + 1, hlt, by omega, zc4 0 832 ?_⟩
    simp -implicitDefEqProofs only [go_sem]
    rw [zav (by omega)]
   ·simp -implicitDefEqProofs only [go_sem, hlt]
    exact Or.inl (by rw [List.take_of_length_le (by omega)])
end Go.Proofs.YtemnhgmgeijkcaaGreat
namespace Go.Proofs.YtemnhgmgeijkcaaGreat
set_option linter.unusedSimpArgs false
set_option linter.unusedVariables false
set_option linter.unusedSectionVars false
set_option maxRecDepth 4000
open Go.RowKit
def Fm.nodes : Fm -> Nat := Fm.fold fun _ _ _ _ rs => 1 + rs.sum
theorem Fm.nodes_eq (a : Fm) : a.nodes = 1 + (a.parts.map Fm.nodes).sum := Fm.fold_eq _ a
theorem zd5 : ∀ a : Fm, a.nodes <= 1 + a.wt := by
 refine zce fun o a v xs ih => ?_
 rw [Fm.nodes_eq, Fm.wt_eq]
 show 1 + (xs.map Fm.nodes).sum <= 1 + (a.wt + v.length + xs.length + (xs.map Fm.wt).sum)
 have : (xs.map Fm.nodes).sum <= xs.length + (xs.map Fm.wt).sum := by
  induction xs with
  | nil => simp
  | cons x xs ih2 =>
   have h1 := ih x (by simp)
   have h2 := ih2 fun y hy => ih y (by simp [hy])
   simp only [List.map_cons, List.sum_cons, List.length_cons]
   omega
 omega
def zfr : Fm -> Int := Fm.fold fun _ _ _ _ rs => szL 40 1 rs
theorem zt9 (a : Fm) : zfr a = szL 40 1 (a.parts.map zfr) := Fm.fold_eq _ a
theorem zk6 : ∀ a : Fm, 1 <= zfr a /\ zfr a <= a.nodes /\ (zfr a <= 40 -> zfr a = a.nodes) := by
 refine zce fun o a v xs ih => ?_
 rw [zt9, Fm.nodes_eq]
 show 1 <= szL 40 1 (xs.map zfr) /\ szL 40 1 (xs.map zfr) <= ((1 + (xs.map Fm.nodes).sum : Nat) : Int) /\ _
 obtain ⟨k1, k2, k3⟩ := znk zfr Fm.nodes 40 xs 1 (by omega) ih
 refine ⟨k2, by omega, fun h => ?_⟩
 have := k3 h
 show szL 40 1 (xs.map zfr) = _
 rw [this]; show _ = ((1 + (xs.map Fm.nodes).sum : Nat) : Int); omega
theorem qdj (a : Fm) : decide (zfr a <= 40) = decide (a.nodes <= 40) := by
 obtain ⟨h1, h2, h3⟩ := zk6 a
 rw [decide_eq_decide]
 exact ⟨fun h => by have := h3 h; omega, fun h => by omega⟩
theorem zcp {a x : Fm} (h : x ∈ a.parts) : x.wt <= a.wt := by
 have := Fm.wt_eq a
 have := zb2 Fm.wt a.parts x h
 omega
theorem zmt {a x : Tm} (h : x ∈ a.args) : x.wt <= a.wt := by
 have := Tm.wt_eq a
 have := zb2 Tm.wt a.args x h
 omega
theorem zic (a : Fm) : a.atom.wt <= a.wt := by have := Fm.wt_eq a; omega
set_option maxHeartbeats 400000 in
theorem qak (a : Fm) (hs : a.wt <= 1099511627776) (H : ∀ x ∈ a.parts, FC Tryz.prog 181 [fmD x] [iD (zfr x)]) : FC Tryz.prog 181 [fmD a] [iD (zfr a)] := by
 have hl : a.parts.length <= 9223372036854775807 := by rw [Fm.wt_eq] at hs; omega
 have hn := zd5 a
 have hN := a.nodes_eq
 simp only [fmD, zaa]
 refine zah Tryz.call181 Tryz.func181 rfl (by kernel_rfl) (zat (by kernel_rfl)) ?_
 simp -implicitDefEqProofs only [go_sem, Tryz.results181]
 refine zaf (fun p : Nat × Int => hd [(3, vI p.2), (7, vT (fmS a.parts)), (8, vI a.parts.length), (9, vI p.1)] [] []) (fun p => p.1 <= a.parts.length /\ zfr a = szL 40 p.2 ((a.parts.drop p.1).map zfr) /\ 1 <= p.2 /\ p.2 + qdf Fm.nodes a.parts p.1 <= a.nodes) (fun p => a.parts.length - p.1) (0, 1) (zac ?_) ?_ ?_
 ·simp -implicitDefEqProofs only [go_sem]
 ·exact ⟨by simp, by rw [zt9]; rfl, by omega, by rw [zhc]; omega⟩
 ·intro ⟨k, n⟩ ⟨hk, hr, h1, h2⟩
  simp only at hk hr h1 h2
  by_cases hlt : k < a.parts.length
  ·have hd := zng Fm.nodes a.parts k hlt
   obtain ⟨s1, s2, s3⟩ := zk6 a.parts[k]
   rw [List.drop_eq_getElem_cons hlt, List.map_cons, szL] at hr
   simp -implicitDefEqProofs only [go_sem, zad, hlt, zaa]
   refine ⟨fun h => ?_, fun h => ?_⟩
   ·rw [hr, if_pos (by simpa using h)]
   ·refine callF (H a.parts[k] (List.getElem_mem hlt)) (by simp -implicitDefEqProofs only [go_sem, zaa]) ?_
    simp -implicitDefEqProofs only [go_sem, zaa]
    rw [if_neg (by simpa using h)] at hr
    exact ⟨(k + 1, n + zfr a.parts[k]), ⟨hlt, hr, by simp only; omega, by simp only; omega⟩, by simp only; omega, zac (by simp -implicitDefEqProofs only [go_sem]; rw [zav (by omega), zbl (by omega) (by omega)]; exact ⟨rfl, rfl⟩)⟩
  ·simp -implicitDefEqProofs only [go_sem, hlt]
   rw [hr, List.drop_of_length_le (by omega)]; rfl
theorem qfx : ∀ a : Fm, a.wt <= 1099511627776 -> FC Tryz.prog 181 [fmD a] [iD (zfr a)] :=
 zce fun o a v xs ih hs => qak (.mk o a v xs) hs fun x hx => ih x hx (Nat.le_trans (zcp (a := .mk o a v xs) hx) hs)
def mnL (most : Int) : Int -> List (Int -> Int) -> Int
 | n, [] => n
 | n, r :: rs => if n <= most then mnL most (n + r (most - n)) rs else n
theorem zlz {α : Type} (f : α -> Int -> Int) (g : α -> Nat) (most : Int) : ∀ (xs : List α) (n : Int), 0 <= n -> (∀ x ∈ xs, ∀ m, 0 <= m -> 1 <= f x m /\ f x m <= g x /\ (f x m <= m -> f x m = g x)) -> mnL most n (xs.map f) <= n + (xs.map g).sum /\ n <= mnL most n (xs.map f) /\ (mnL most n (xs.map f) <= most -> mnL most n (xs.map f) = n + (xs.map g).sum)
 | [], n, _, _ => by simp [mnL]
 | x :: xs, n, hn, h => by
  simp only [List.map_cons, mnL, List.sum_cons]
  split
  ·obtain ⟨h1, h2, h3⟩ := h x (by simp) (most - n) (by omega)
   obtain ⟨k1, k2, k3⟩ := zlz f g most xs (n + f x (most - n)) (by omega) fun y hy => h y (by simp [hy])
   refine ⟨by omega, by omega, fun hh => ?_⟩
   have := k3 hh
   have : f x (most - n) = g x := h3 (by omega)
   omega
  ·refine ⟨by omega, by omega, fun hh => by omega⟩
def ze5 : Tm -> Int -> Int := Tm.fold fun _ _ rs m => mnL m 1 rs
theorem zul (a : Tm) (m : Int) : ze5 a m = mnL m 1 (a.args.map ze5) := congrFun (Tm.fold_eq _ a) m
theorem zlh : ∀ (a : Tm) (m : Int), 0 <= m -> 1 <= ze5 a m /\ ze5 a m <= a.nodes /\ (ze5 a m <= m -> ze5 a m = a.nodes) := by
 refine zby fun b0 xs ih m hm => ?_
 rw [zul, Tm.nodes_eq]
 show 1 <= mnL m 1 (xs.map ze5) /\ mnL m 1 (xs.map ze5) <= ((1 + (xs.map Tm.nodes).sum : Nat) : Int) /\ (mnL m 1 (xs.map ze5) <= m -> mnL m 1 (xs.map ze5) = ((1 + (xs.map Tm.nodes).sum : Nat) : Int))
 obtain ⟨k1, k2, k3⟩ := zlz ze5 Tm.nodes m xs 1 (by omega) ih
 refine ⟨k2, by omega, fun h => ?_⟩
 have := k3 h
 omega
theorem qf0 (a : Tm) (m : Nat) : decide (ze5 a m <= m) = decide (a.nodes <= m) := by
 obtain ⟨h1, h2, h3⟩ := zlh a m (by omega)
 rw [decide_eq_decide]
 exact ⟨fun h => by have := h3 h; omega, fun h => by omega⟩
set_option maxHeartbeats 400000 in
theorem zxb (a : Tm) (hs : a.wt <= 1099511627776) (H : ∀ x ∈ a.args, ∀ m : Int, 0 <= m -> m <= 1099511627776 -> FC Tryz.prog 281 [tmD x, iD m] [iD (ze5 x m)]) (m : Int) (h0 : 0 <= m) (h1 : m <= 1099511627776) : FC Tryz.prog 281 [tmD a, iD m] [iD (ze5 a m)] := by
 have hl : a.args.length <= 9223372036854775807 := by rw [Tm.wt_eq] at hs; omega
 have hn := ze1 a
 have hN := a.nodes_eq
 simp only [tmD, zab]
 refine zah Tryz.call281 Tryz.func281 rfl (by kernel_rfl) (zat (by kernel_rfl)) ?_
 simp -implicitDefEqProofs only [go_sem, Tryz.results281]
 refine zaf (fun p : Nat × Int => hd [(1, vI m), (2, .one (.bx 2 0)), (5, vI p.2), (6, vI p.1)] [(2, [.t (.str a.name), .t (tmS a.args)])] []) (fun p => p.1 <= a.args.length /\ ze5 a m = mnL m p.2 ((a.args.drop p.1).map ze5) /\ 1 <= p.2 /\ p.2 + qdf Tm.nodes a.args p.1 <= a.nodes) (fun p => a.args.length - p.1) (0, 1) (zac ?_) ?_ ?_
 ·simp -implicitDefEqProofs only [go_sem]
 ·exact ⟨by simp, by rw [zul]; rfl, by omega, by rw [zhc]; omega⟩
 ·intro ⟨k, n⟩ ⟨hk, hr, h2, h3⟩
  simp only at hk hr h2 h3
  by_cases hlt : k < a.args.length
  ·have hd := zng Tm.nodes a.args k hlt
   rw [List.drop_eq_getElem_cons hlt, List.map_cons, mnL] at hr
   simp -implicitDefEqProofs only [go_sem, zad, hlt, zab]
   refine ⟨fun h => ?_, fun h => ?_⟩
   ·have hle : n <= m := by simpa using h
    obtain ⟨s1, s2, s3⟩ := zlh a.args[k] (m - n) (by omega)
    rw [zbl (n := m - n) (by omega) (by omega)]
    refine callF (H a.args[k] (List.getElem_mem hlt) (m - n) (by omega) (by omega)) (by simp -implicitDefEqProofs only [go_sem, zab]) ?_
    simp -implicitDefEqProofs only [go_sem, zab]
    rw [if_pos hle] at hr
    exact ⟨(k + 1, n + ze5 a.args[k] (m - n)), ⟨hlt, hr, by simp only; omega, by simp only; omega⟩, by simp only; omega, zac (by simp -implicitDefEqProofs only [go_sem]; rw [zav (by omega), zbl (by omega) (by omega)]; exact ⟨rfl, rfl⟩)⟩
   ·rw [hr, if_neg (by simpa using h)]
  ·simp -implicitDefEqProofs only [go_sem, hlt]
   rw [hr, List.drop_of_length_le (by omega)]; rfl
theorem qee : ∀ a : Tm, a.wt <= 1099511627776 -> ∀ m : Int, 0 <= m -> m <= 1099511627776 -> FC Tryz.prog 281 [tmD a, iD m] [iD (ze5 a m)] :=
 zby fun b0 xs ih hs => zxb (.mk b0 xs) hs fun x hx => ih x hx (Nat.le_trans (zmt (a := .mk b0 xs) hx) hs)
def ze6 : Fm -> Int -> Int := Fm.fold fun _ _ _ _ rs m => mnL m 1 rs
theorem zut (a : Fm) (m : Int) : ze6 a m = mnL m 1 (a.parts.map ze6) := congrFun (Fm.fold_eq _ a) m
theorem zlp : ∀ (a : Fm) (m : Int), 0 <= m -> 1 <= ze6 a m /\ ze6 a m <= a.nodes /\ (ze6 a m <= m -> ze6 a m = a.nodes) := by
 refine zce fun b0 b1 b2 xs ih m hm => ?_
 rw [zut, Fm.nodes_eq]
 show 1 <= mnL m 1 (xs.map ze6) /\ mnL m 1 (xs.map ze6) <= ((1 + (xs.map Fm.nodes).sum : Nat) : Int) /\ (mnL m 1 (xs.map ze6) <= m -> mnL m 1 (xs.map ze6) = ((1 + (xs.map Fm.nodes).sum : Nat) : Int))
 obtain ⟨k1, k2, k3⟩ := zlz ze6 Fm.nodes m xs 1 (by omega) ih
 refine ⟨k2, by omega, fun h => ?_⟩
 have := k3 h
 omega
theorem qfa (a : Fm) (m : Nat) : decide (ze6 a m <= m) = decide (a.nodes <= m) := by
 obtain ⟨h1, h2, h3⟩ := zlp a m (by omega)
 rw [decide_eq_decide]
 exact ⟨fun h => by have := h3 h; omega, fun h => by omega⟩
set_option maxHeartbeats 400000 in
theorem zxs (a : Fm) (hs : a.wt <= 1099511627776) (H : ∀ x ∈ a.parts, ∀ m : Int, 0 <= m -> m <= 1099511627776 -> FC Tryz.prog 179 [fmD x, iD m] [iD (ze6 x m)]) (m : Int) (h0 : 0 <= m) (h1 : m <= 1099511627776) : FC Tryz.prog 179 [fmD a, iD m] [iD (ze6 a m)] := by
 have hl : a.parts.length <= 9223372036854775807 := by rw [Fm.wt_eq] at hs; omega
 have hn := zd5 a
 have hN := a.nodes_eq
 simp only [fmD, zaa]
 refine zah Tryz.call179 Tryz.func179 rfl (by kernel_rfl) (zat (by kernel_rfl)) ?_
 simp -implicitDefEqProofs only [go_sem, Tryz.results179]
 refine zaf (fun p : Nat × Int => hd [(1, vI m), (2, .one (.bx 2 0)), (5, vI p.2), (6, vI p.1)] [(2, [.t (.int .i64 a.op), .t (.str a.atom.name), .t (tmS a.atom.args), .t (.str a.var), .t (fmS a.parts)])] []) (fun p => p.1 <= a.parts.length /\ ze6 a m = mnL m p.2 ((a.parts.drop p.1).map ze6) /\ 1 <= p.2 /\ p.2 + qdf Fm.nodes a.parts p.1 <= a.nodes) (fun p => a.parts.length - p.1) (0, 1) (zac ?_) ?_ ?_
 ·simp -implicitDefEqProofs only [go_sem]
 ·exact ⟨by simp, by rw [zut]; rfl, by omega, by rw [zhc]; omega⟩
 ·intro ⟨k, n⟩ ⟨hk, hr, h2, h3⟩
  simp only at hk hr h2 h3
  by_cases hlt : k < a.parts.length
  ·have hd := zng Fm.nodes a.parts k hlt
   rw [List.drop_eq_getElem_cons hlt, List.map_cons, mnL] at hr
   simp -implicitDefEqProofs only [go_sem, zad, hlt, zaa]
   refine ⟨fun h => ?_, fun h => ?_⟩
   ·have hle : n <= m := by simpa using h
    obtain ⟨s1, s2, s3⟩ := zlp a.parts[k] (m - n) (by omega)
    rw [zbl (n := m - n) (by omega) (by omega)]
    refine callF (H a.parts[k] (List.getElem_mem hlt) (m - n) (by omega) (by omega)) (by simp -implicitDefEqProofs only [go_sem, zaa]) ?_
    simp -implicitDefEqProofs only [go_sem, zaa]
    rw [if_pos hle] at hr
    exact ⟨(k + 1, n + ze6 a.parts[k] (m - n)), ⟨hlt, hr, by simp only; omega, by simp only; omega⟩, by simp only; omega, zac (by simp -implicitDefEqProofs only [go_sem]; rw [zav (by omega), zbl (by omega) (by omega)]; exact ⟨rfl, rfl⟩)⟩
   ·rw [hr, if_neg (by simpa using h)]
  ·simp -implicitDefEqProofs only [go_sem, hlt]
   rw [hr, List.drop_of_length_le (by omega)]; rfl
theorem qd1 : ∀ a : Fm, a.wt <= 1099511627776 -> ∀ m : Int, 0 <= m -> m <= 1099511627776 -> FC Tryz.prog 179 [fmD a, iD m] [iD (ze6 a m)] :=
 zce fun b0 b1 b2 xs ih hs => zxs (.mk b0 b1 b2 xs) hs fun x hx => ih x hx (Nat.le_trans (zcp (a := .mk b0 b1 b2 xs) hx) hs)
end Go.Proofs.YtemnhgmgeijkcaaGreat
namespace Go.Proofs.YtemnhgmgeijkcaaGreat
set_option linter.unusedSimpArgs false
set_option linter.unusedVariables false
set_option linter.unusedSectionVars false
set_option maxRecDepth 4000
open Go.RowKit
set_option maxHeartbeats 400000 in
theorem zvh (a : Tm) (hs : a.wt <= 1099511627776) (H : ∀ x ∈ a.args, FC Tryz.prog 282 [tmD x] [iD x.depth]) : FC Tryz.prog 282 [tmD a] [iD a.depth] := by
 have hl : a.args.length <= 9223372036854775807 := by rw [Tm.wt_eq] at hs; omega
 have hn := ze1 a
 have hdn := zkn a
 have hD := a.depth_eq
 simp only [tmD, zab]
 refine zah Tryz.call282 Tryz.func282 rfl (by kernel_rfl) (zat (by kernel_rfl)) ?_
 simp -implicitDefEqProofs only [go_sem, Tryz.results282]
 refine zaf (fun p : Nat × Nat => hd [(1, .one (.bx 1 0)), (3, vI p.2), (4, vI p.1)] [(1, [.t (.str a.name), .t (tmS a.args)])] []) (fun p => p.1 <= a.args.length /\ a.depth = ((a.args.drop p.1).map Tm.depth).foldl max p.2 + 1) (fun p => a.args.length - p.1) (0, 0) (zac ?_) ?_ ?_
 ·simp -implicitDefEqProofs only [go_sem]
 ·exact ⟨by simp, hD⟩
 ·intro ⟨k, n⟩ ⟨hk, hr⟩
  simp only at hk hr
  by_cases hlt : k < a.args.length
  ·rw [List.drop_eq_getElem_cons hlt, List.map_cons, List.foldl_cons] at hr
   simp -implicitDefEqProofs only [go_sem, zad, hlt, zab]
   refine callF (H a.args[k] (List.getElem_mem hlt)) (by simp -implicitDefEqProofs only [go_sem, zab]) ?_
   simp -implicitDefEqProofs only [go_sem, zab]
   refine callF (qfu n a.args[k].depth) (by simp -implicitDefEqProofs only [go_sem, zab]) ?_
   simp -implicitDefEqProofs only [go_sem, zab]
   exact ⟨(k + 1, max n a.args[k].depth), ⟨hlt, hr⟩, by simp only; omega, zac (by simp -implicitDefEqProofs only [go_sem]; rw [zav (by omega)]; exact ⟨by congr 1; omega, rfl⟩)⟩
  ·simp -implicitDefEqProofs only [go_sem, hlt]
   rw [List.drop_of_length_le (by omega)] at hr
   simp only [List.map_nil, List.foldl_nil] at hr
   rw [hr, zav (by omega)]
theorem qb6 : ∀ a : Tm, a.wt <= 1099511627776 -> FC Tryz.prog 282 [tmD a] [iD a.depth] :=
 zby fun n xs ih hs => zvh (.mk n xs) hs fun x hx => ih x hx (Nat.le_trans (zmt (a := .mk n xs) hx) hs)
theorem zt4 (a : Tm) (hs : a.wt <= 1099511627776) : FC Tryz.prog 237 [tmD a] [bD (zdr a)] := by
 simp only [tmD, zab]
 refine zah Tryz.call237 Tryz.func237 rfl (by kernel_rfl) (zat (by kernel_rfl)) ?_
 simp -implicitDefEqProofs only [go_sem, Tryz.results237]
 refine callF (qee a hs 30 (by omega) (by omega)) (by simp -implicitDefEqProofs only [go_sem, zab]) ?_
 simp -implicitDefEqProofs only [go_sem, zab]
 rw [show decide (ze5 a 30 <= 30) = decide (a.nodes <= 30) from qf0 a 30]
 refine ⟨fun h => ?_, fun h => ?_⟩
 ·refine callF (qb6 a hs) (by simp -implicitDefEqProofs only [go_sem, zab]) ?_
  simp -implicitDefEqProofs only [go_sem, zab]
  rw [zdr, h, Bool.true_and]
  congr 1
  rw [decide_eq_decide]; omega
 ·rw [zdr, h]; rfl
theorem zve (a : Tm) (H : ∀ x ∈ a.args, FC Tryz.prog 238 [tmD x] [bD x.names]) : FC Tryz.prog 238 [tmD a] [bD a.names] := by
 refine zdx (fun hw => ?_) Tryz.call238
 have hl : a.args.length <= 9223372036854775807 := by simp only [tmD, zab] at hw; simp [zhb, wfT, znz] at hw; exact hw.2.1
 have hN := a.names_eq
 simp only [tmD, zab]
 refine zah Tryz.call238 Tryz.func238 rfl (by kernel_rfl) (zat (by kernel_rfl)) ?_
 simp -implicitDefEqProofs only [go_sem, Tryz.results238]
 refine callF (zh8 a.name) (by simp -implicitDefEqProofs only [go_sem]) ?_
 simp -implicitDefEqProofs only [go_sem]
 refine ⟨fun h => ?_, fun h => ?_⟩
 ·rw [hN, if_pos h]
  congr 1
  rw [Bool.eq_iff_iff]; simp
 ·rw [h] at hN
  simp only [Bool.false_eq_true, if_false] at hN
  refine callF (zk4 a.name) (by simp -implicitDefEqProofs only [go_sem]) ?_
  simp -implicitDefEqProofs only [go_sem]
  by_cases hy : zc0 a.name = true
  ·by_cases h4 : a.args.length <= 4
   ·rw [hy, show decide (a.args.length <= 4) = true by simpa using h4, Bool.true_and, Bool.true_and] at hN
    refine ⟨fun _ => ⟨fun h => by simp at h; omega, fun _ => ?_⟩, fun h => by simp [hy] at h⟩
    refine zaf (fun k : Nat => hd [(1, .one (.bx 1 0)), (3, vI k)] [(1, [.t (.str a.name), .t (tmS a.args)])] []) (fun k => k <= a.args.length /\ a.names = (a.args.drop k).all Tm.names) (fun k => a.args.length - k) 0 (zac ?_) ?_ ?_
    ·simp -implicitDefEqProofs only [go_sem]
    ·exact ⟨by simp, hN⟩
    ·intro k ⟨hk, hr⟩
     by_cases hlt : k < a.args.length
     ·rw [List.drop_eq_getElem_cons hlt, List.all_cons] at hr
      simp -implicitDefEqProofs only [go_sem, zad, hlt, zab]
      refine callF (H a.args[k] (List.getElem_mem hlt)) (by simp -implicitDefEqProofs only [go_sem, zab]) ?_
      simp -implicitDefEqProofs only [go_sem, zab]
      refine ⟨fun h => ?_, fun h => ⟨k + 1, ⟨hlt, ?_⟩, by omega, zac (by simp -implicitDefEqProofs only [go_sem]; rw [zav (by omega)])⟩⟩
      ·rw [hr, show a.args[k].names = false by simpa using h]; rfl
      ·rw [hr, show a.args[k].names = true by simpa using h]; rfl
     ·simp -implicitDefEqProofs only [go_sem, hlt]
      rw [hr, List.drop_of_length_le (by omega)]; rfl
   ·refine ⟨fun _ => ⟨fun _ => ?_, fun h => by simp at h; omega⟩, fun h => by simp [hy] at h⟩
    rw [hN, show decide (a.args.length <= 4) = false by simpa using h4, Bool.and_false]; rfl
  ·have hy' : zc0 a.name = false := by simpa using hy
   refine ⟨fun h => by simp [hy'] at h, fun _ => ?_⟩
   rw [hN, hy']; rfl
theorem zjv : ∀ a : Tm, FC Tryz.prog 238 [tmD a] [bD a.names] := zby fun n xs ih => zve (.mk n xs) ih
theorem zs4 (a : Tm) (hs : a.wt <= 1099511627776) : FC Tryz.prog 173 [tmD a] [bD a.good] := by
 simp only [tmD, zab]
 refine zah Tryz.call173 Tryz.func173 rfl (by kernel_rfl) (zat (by kernel_rfl)) ?_
 simp -implicitDefEqProofs only [go_sem, Tryz.results173]
 refine callF (zt4 a hs) (by simp -implicitDefEqProofs only [go_sem, zab]) ?_
 simp -implicitDefEqProofs only [go_sem, zab]
 refine ⟨fun h => ?_, fun h => ?_⟩
 ·refine callF (zjv a) (by simp -implicitDefEqProofs only [go_sem, zab]) ?_
  simp -implicitDefEqProofs only [go_sem, zab]
  rw [Tm.good, h, Bool.true_and]
 ·rw [Tm.good, h, Bool.false_and]
theorem zsn (a : Tm) (hs : a.wt <= 1099511627776) : FC Tryz.prog 177 [tmD a] [bD a.atomOk] := by
 have hN : a.atomOk = if (a.name == [61]) = true then decide (a.args.length = 2) && zdr a && a.args.all Tm.names else zc0 a.name && a.good := rfl
 simp only [tmD, zab]
 refine zah Tryz.call177 Tryz.func177 rfl (by kernel_rfl) (zat (by kernel_rfl)) ?_
 simp -implicitDefEqProofs only [go_sem, Tryz.results177]
 refine ⟨fun h => ?_, fun h => ?_⟩
 ·rw [if_pos h] at hN
  by_cases h2 : a.args.length = 2
  ·have k0 : 0 < a.args.length := by omega
   have k1 : 1 < a.args.length := by omega
   have e2 : ((a.args.length : Int) == 2) = true := by simp [h2]
   have l0 : (0 : Int) < a.args.length := by omega
   have l1 : (1 : Int) < a.args.length := by omega
   rw [zzi h2, show decide (a.args.length = 2) = true by simp [h2]] at hN
   simp only [Bool.true_and] at hN
   simp only [e2, qao, zfv, qko, zev, and_true]
   refine callF (zt4 a hs) (by simp -implicitDefEqProofs only [go_sem, zab, l0, zad, k0]) ?_
   simp -implicitDefEqProofs only [go_sem, zab, l0, zad, k0]
   refine ⟨fun h3 => ?_, fun h3 => ?_⟩
   ·refine callF (zjv a.args[0]) (by simp -implicitDefEqProofs only [go_sem, zab, l1, zad, k1]) ?_
    simp -implicitDefEqProofs only [go_sem, zab, l1, zad, k1]
    refine ⟨fun h4 => ?_, fun h4 => ?_⟩
    ·refine callF (zjv a.args[1]) (by simp -implicitDefEqProofs only [go_sem, zab]) ?_
     simp -implicitDefEqProofs only [go_sem, zab]
     rw [hN, h3, h4]; rfl
    ·rw [hN, h3, h4]; rfl
   ·rw [hN, h3]; rfl
  ·have e2 : ((a.args.length : Int) == 2) = false := by simp; omega
   simp only [e2, qao, qit, zfv, zev, and_true, true_and, qj0]
   rw [hN, show decide (a.args.length = 2) = false by simpa using h2]; rfl
 ·rw [h] at hN
  simp only [Bool.false_eq_true, if_false] at hN
  refine callF (zk4 a.name) (by simp -implicitDefEqProofs only [go_sem]) ?_
  simp -implicitDefEqProofs only [go_sem]
  refine ⟨fun h3 => ?_, fun h3 => ?_⟩
  ·refine callF (zs4 a hs) (by simp -implicitDefEqProofs only [go_sem, zab]) ?_
   simp -implicitDefEqProofs only [go_sem, zab]
   rw [hN, h3, Bool.true_and]
  ·rw [hN, h3, Bool.false_and]
theorem zeb (a : Tm) : FC Tryz.prog 283 [tmD a] [bD a.none] := by
 simp only [tmD, zab]
 refine zah Tryz.call283 Tryz.func283 rfl (by kernel_rfl) (zat (by kernel_rfl)) ?_
 simp -implicitDefEqProofs only [go_sem, Tryz.results283]
 unfold Tm.none
 refine ⟨fun h => ?_, fun h => ?_⟩
 ·rw [h, Bool.true_and]
  congr 1
  rw [Bool.eq_iff_iff]; simp
 ·rw [h]; rfl
def Fm.here (f : Fm) : Bool :=
 if (f.op == 1 || f.op == 2) = true then decide (f.parts.length = 0) && f.atom.none && (f.var == [])
 else if (f.op == 3) = true then decide (f.parts.length = 0) && f.atom.atomOk && (f.var == [])
 else if (f.op == 4) = true then decide (f.parts.length = 1) && f.atom.none && (f.var == [])
 else if znn f.op = true then decide (f.parts.length = 2) && f.atom.none && (f.var == [])
 else if isQ f.op = true then decide (f.parts.length = 1) && f.atom.none && zbi f.var
 else false
theorem zmy (n m : Nat) : ((n : Int) == (m : Int)) = decide (n = m) := by
 rw [Bool.eq_iff_iff]; simp only [beq_iff_eq, decide_eq_true_eq]; omega
theorem zr3 (n m : Nat) : ((n : Int) != (m : Int)) = !decide (n = m) := by
 rw [bne, zmy]
theorem zth (o : Int) : o = 1 \/ o = 2 \/ o = 3 \/ o = 4 \/ o = 5 \/ o = 6 \/ o = 7 \/ o = 8 \/ o = 9 \/ (o ≠ 1 /\ o ≠ 2 /\ o ≠ 3 /\ o ≠ 4 /\ o ≠ 5 /\ o ≠ 6 /\ o ≠ 7 /\ o ≠ 8 /\ o ≠ 9) := by omega
set_option maxHeartbeats 4000000 in
theorem qev (f : Fm) (hs : f.wt <= 1099511627776) : FC Tryz.prog 242 [fmD f] [bD f.here] := by
 obtain ⟨o, a, v, ps⟩ := f
 have ha : a.wt <= 1099511627776 := Nat.le_trans (zic (.mk o a v ps)) hs
 have e0 : ((ps.length : Int) == 0) = decide (ps.length = 0) := zmy _ 0
 have e1 : ((ps.length : Int) == 1) = decide (ps.length = 1) := zmy _ 1
 have e2 : ((ps.length : Int) == 2) = decide (ps.length = 2) := zmy _ 2
 rcases zth o with rfl | rfl | rfl | rfl | rfl | rfl | rfl | rfl | rfl | ⟨n1, n2, n3, n4, n5, n6, n7, n8, n9⟩
 ·have hN : Fm.here (.mk 1 a v ps) = (decide (ps.length = 0) && a.none && (v == [])) := rfl
  simp only [fmD, zaa, Fm.op, Fm.atom, Fm.var, Fm.parts]
  refine zah Tryz.call242 Tryz.func242 rfl (by kernel_rfl) (zat (by kernel_rfl)) ?_
  simp -implicitDefEqProofs only [go_sem, Tryz.results242]
  simp only [e0]
  refine ⟨fun h => ?_, fun h => ?_⟩
  ·refine callF (zeb a) (by simp -implicitDefEqProofs only [go_sem, zab]) ?_
   simp -implicitDefEqProofs only [go_sem, zab]
   refine ⟨fun h1 => ?_, fun h1 => ?_⟩
   ·rw [hN, h, h1]; rfl
   ·rw [hN, h, h1]; rfl
  ·rw [hN, h]; rfl
 ·have hN : Fm.here (.mk 2 a v ps) = (decide (ps.length = 0) && a.none && (v == [])) := rfl
  simp only [fmD, zaa, Fm.op, Fm.atom, Fm.var, Fm.parts]
  refine zah Tryz.call242 Tryz.func242 rfl (by kernel_rfl) (zat (by kernel_rfl)) ?_
  simp -implicitDefEqProofs only [go_sem, Tryz.results242]
  simp only [e0]
  refine ⟨fun h => ?_, fun h => ?_⟩
  ·refine callF (zeb a) (by simp -implicitDefEqProofs only [go_sem, zab]) ?_
   simp -implicitDefEqProofs only [go_sem, zab]
   refine ⟨fun h1 => ?_, fun h1 => ?_⟩
   ·rw [hN, h, h1]; rfl
   ·rw [hN, h, h1]; rfl
  ·rw [hN, h]; rfl
 ·have hN : Fm.here (.mk 3 a v ps) = (decide (ps.length = 0) && a.atomOk && (v == [])) := rfl
  simp only [fmD, zaa, Fm.op, Fm.atom, Fm.var, Fm.parts]
  refine zah Tryz.call242 Tryz.func242 rfl (by kernel_rfl) (zat (by kernel_rfl)) ?_
  simp -implicitDefEqProofs only [go_sem, Tryz.results242]
  simp only [e0]
  refine ⟨fun h => ?_, fun h => ?_⟩
  ·refine callF (zsn a ha) (by simp -implicitDefEqProofs only [go_sem, zab]) ?_
   simp -implicitDefEqProofs only [go_sem, zab]
   refine ⟨fun h1 => ?_, fun h1 => ?_⟩
   ·rw [hN, h, h1]; rfl
   ·rw [hN, h, h1]; rfl
  ·rw [hN, h]; rfl
 ·have hN : Fm.here (.mk 4 a v ps) = (decide (ps.length = 1) && a.none && (v == [])) := rfl
  simp only [fmD, zaa, Fm.op, Fm.atom, Fm.var, Fm.parts]
  refine zah Tryz.call242 Tryz.func242 rfl (by kernel_rfl) (zat (by kernel_rfl)) ?_
  simp -implicitDefEqProofs only [go_sem, Tryz.results242]
  simp only [e1]
  refine ⟨fun h => ?_, fun h => ?_⟩
  ·refine callF (zeb a) (by simp -implicitDefEqProofs only [go_sem, zab]) ?_
   simp -implicitDefEqProofs only [go_sem, zab]
   refine ⟨fun h1 => ?_, fun h1 => ?_⟩
   ·rw [hN, h, h1]; rfl
   ·rw [hN, h, h1]; rfl
  ·rw [hN, h]; rfl
 ·have hN : Fm.here (.mk 5 a v ps) = (decide (ps.length = 2) && a.none && (v == [])) := rfl
  simp only [fmD, zaa, Fm.op, Fm.atom, Fm.var, Fm.parts]
  refine zah Tryz.call242 Tryz.func242 rfl (by kernel_rfl) (zat (by kernel_rfl)) ?_
  simp -implicitDefEqProofs only [go_sem, Tryz.results242]
  simp only [e2]
  refine ⟨fun h => ?_, fun h => ?_⟩
  ·refine callF (zeb a) (by simp -implicitDefEqProofs only [go_sem, zab]) ?_
   simp -implicitDefEqProofs only [go_sem, zab]
   refine ⟨fun h1 => ?_, fun h1 => ?_⟩
   ·rw [hN, h, h1]; rfl
   ·rw [hN, h, h1]; rfl
  ·rw [hN, h]; rfl
 ·have hN : Fm.here (.mk 6 a v ps) = (decide (ps.length = 2) && a.none && (v == [])) := rfl
  simp only [fmD, zaa, Fm.op, Fm.atom, Fm.var, Fm.parts]
  refine zah Tryz.call242 Tryz.func242 rfl (by kernel_rfl) (zat (by kernel_rfl)) ?_
  simp -implicitDefEqProofs only [go_sem, Tryz.results242]
  simp only [e2]
  refine ⟨fun h => ?_, fun h => ?_⟩
  ·refine callF (zeb a) (by simp -implicitDefEqProofs only [go_sem, zab]) ?_
   simp -implicitDefEqProofs only [go_sem, zab]
   refine ⟨fun h1 => ?_, fun h1 => ?_⟩
   ·rw [hN, h, h1]; rfl
   ·rw [hN, h, h1]; rfl
  ·rw [hN, h]; rfl
 ·have hN : Fm.here (.mk 7 a v ps) = (decide (ps.length = 2) && a.none && (v == [])) := rfl
  simp only [fmD, zaa, Fm.op, Fm.atom, Fm.var, Fm.parts]
  refine zah Tryz.call242 Tryz.func242 rfl (by kernel_rfl) (zat (by kernel_rfl)) ?_
  simp -implicitDefEqProofs only [go_sem, Tryz.results242]
  simp only [e2]
  refine ⟨fun h => ?_, fun h => ?_⟩
  ·refine callF (zeb a) (by simp -implicitDefEqProofs only [go_sem, zab]) ?_
   simp -implicitDefEqProofs only [go_sem, zab]
   refine ⟨fun h1 => ?_, fun h1 => ?_⟩
   ·rw [hN, h, h1]; rfl
   ·rw [hN, h, h1]; rfl
  ·rw [hN, h]; rfl
 ·have hN : Fm.here (.mk 8 a v ps) = (decide (ps.length = 1) && a.none && zbi v) := rfl
  simp only [fmD, zaa, Fm.op, Fm.atom, Fm.var, Fm.parts]
  refine zah Tryz.call242 Tryz.func242 rfl (by kernel_rfl) (zat (by kernel_rfl)) ?_
  simp -implicitDefEqProofs only [go_sem, Tryz.results242]
  simp only [e1]
  refine ⟨fun h => ?_, fun h => ?_⟩
  ·refine callF (zeb a) (by simp -implicitDefEqProofs only [go_sem, zab]) ?_
   simp -implicitDefEqProofs only [go_sem, zab]
   refine ⟨fun h1 => ?_, fun h1 => ?_⟩
   ·refine callF (zh8 v) (by simp -implicitDefEqProofs only [go_sem]) ?_
    simp -implicitDefEqProofs only [go_sem]
    rw [hN, h, h1]; rfl
   ·rw [hN, h, h1]; rfl
  ·rw [hN, h]; rfl
 ·have hN : Fm.here (.mk 9 a v ps) = (decide (ps.length = 1) && a.none && zbi v) := rfl
  simp only [fmD, zaa, Fm.op, Fm.atom, Fm.var, Fm.parts]
  refine zah Tryz.call242 Tryz.func242 rfl (by kernel_rfl) (zat (by kernel_rfl)) ?_
  simp -implicitDefEqProofs only [go_sem, Tryz.results242]
  simp only [e1]
  refine ⟨fun h => ?_, fun h => ?_⟩
  ·refine callF (zeb a) (by simp -implicitDefEqProofs only [go_sem, zab]) ?_
   simp -implicitDefEqProofs only [go_sem, zab]
   refine ⟨fun h1 => ?_, fun h1 => ?_⟩
   ·refine callF (zh8 v) (by simp -implicitDefEqProofs only [go_sem]) ?_
    simp -implicitDefEqProofs only [go_sem]
    rw [hN, h, h1]; rfl
   ·rw [hN, h, h1]; rfl
  ·rw [hN, h]; rfl
 ·have hN : Fm.here (.mk o a v ps) = false := by simp [Fm.here, znn, isQ, Fm.op, *]
  have f1 : (o == 1) = false := by simpa using n1
  have f2 : (o == 2) = false := by simpa using n2
  have f3 : (o == 3) = false := by simpa using n3
  have f4 : (o == 4) = false := by simpa using n4
  have f5 : (o == 5) = false := by simpa using n5
  have f6 : (o == 6) = false := by simpa using n6
  have f7 : (o == 7) = false := by simpa using n7
  have f8 : (o == 8) = false := by simpa using n8
  have f9 : (o == 9) = false := by simpa using n9
  simp only [fmD, zaa, Fm.op, Fm.atom, Fm.var, Fm.parts]
  refine zah Tryz.call242 Tryz.func242 rfl (by kernel_rfl) (zat (by kernel_rfl)) ?_
  simp -implicitDefEqProofs only [go_sem, Tryz.results242, f1, f2, f3, f4, f5, f6, f7, f8, f9]
  rw [hN]
def Fm.forms : Fm -> Bool := Fm.fold fun o a v ps rs => (Fm.mk o a v ps).here && rs.all id
theorem Fm.forms_eq (f : Fm) : f.forms = (f.here && f.parts.all Fm.forms) := by
 unfold Fm.forms
 rw [Fm.fold_eq]
 simp only [List.all_map, Fm.eta]
 rfl
theorem zuz (a : Fm) (hs : a.wt <= 1099511627776) (H : ∀ x ∈ a.parts, FC Tryz.prog 180 [fmD x] [bD x.forms]) : FC Tryz.prog 180 [fmD a] [bD a.forms] := by
 have hl : a.parts.length <= 9223372036854775807 := by rw [Fm.wt_eq] at hs; omega
 have hN := a.forms_eq
 simp only [fmD, zaa]
 refine zah Tryz.call180 Tryz.func180 rfl (by kernel_rfl) (zat (by kernel_rfl)) ?_
 simp -implicitDefEqProofs only [go_sem, Tryz.results180]
 refine callF (qev a hs) (by simp -implicitDefEqProofs only [go_sem, zaa]) ?_
 simp -implicitDefEqProofs only [go_sem, zaa]
 refine ⟨fun h => ?_, fun h => ?_⟩
 ·rw [hN, show a.here = false by simpa using h]; rfl
 ·rw [show a.here = true by simpa using h, Bool.true_and] at hN
  refine zaf (fun k : Nat => hd [(1, .one (.bx 1 0)), (3, vI k)] [(1, [.t (.int .i64 a.op), .t (.str a.atom.name), .t (tmS a.atom.args), .t (.str a.var), .t (fmS a.parts)])] []) (fun k => k <= a.parts.length /\ a.forms = (a.parts.drop k).all Fm.forms) (fun k => a.parts.length - k) 0 (zac ?_) ?_ ?_
  ·simp -implicitDefEqProofs only [go_sem]
  ·exact ⟨by simp, hN⟩
  ·intro k ⟨hk, hr⟩
   by_cases hlt : k < a.parts.length
   ·rw [List.drop_eq_getElem_cons hlt, List.all_cons] at hr
    simp -implicitDefEqProofs only [go_sem, zad, hlt, zaa]
    refine callF (H a.parts[k] (List.getElem_mem hlt)) (by simp -implicitDefEqProofs only [go_sem, zaa]) ?_
    simp -implicitDefEqProofs only [go_sem, zaa]
    refine ⟨fun h => ?_, fun h => ⟨k + 1, ⟨hlt, ?_⟩, by omega, zac (by simp -implicitDefEqProofs only [go_sem]; rw [zav (by omega)])⟩⟩
    ·rw [hr, show a.parts[k].forms = false by simpa using h]; rfl
    ·rw [hr, show a.parts[k].forms = true by simpa using h]; rfl
   ·simp -implicitDefEqProofs only [go_sem, hlt]
    rw [hr, List.drop_of_length_le (by omega)]; rfl
theorem zyv : ∀ a : Fm, a.wt <= 1099511627776 -> FC Tryz.prog 180 [fmD a] [bD a.forms] :=
 zce fun o a v xs ih hs => zuz (.mk o a v xs) hs fun x hx => ih x hx (Nat.le_trans (zcp (a := .mk o a v xs) hx) hs)
def Fm.good (a : Fm) : Bool := decide (a.nodes <= 40) && a.forms
theorem zto (a : Fm) (hs : a.wt <= 1099511627776) : FC Tryz.prog 114 [fmD a] [bD a.good] := by
 simp only [fmD, zaa]
 refine zah Tryz.call114 Tryz.func114 rfl (by kernel_rfl) (zat (by kernel_rfl)) ?_
 simp -implicitDefEqProofs only [go_sem, Tryz.results114]
 refine callF (qd1 a hs 40 (by omega) (by omega)) (by simp -implicitDefEqProofs only [go_sem, zaa]) ?_
 simp -implicitDefEqProofs only [go_sem, zaa]
 rw [show decide (ze6 a 40 <= 40) = decide (a.nodes <= 40) from qfa a 40]
 refine ⟨fun h => ?_, fun h => ?_⟩
 ·refine callF (zyv a hs) (by simp -implicitDefEqProofs only [go_sem, zaa]) ?_
  simp -implicitDefEqProofs only [go_sem, zaa]
  rw [Fm.good, h, Bool.true_and]
 ·rw [Fm.good, h, Bool.false_and]
end Go.Proofs.YtemnhgmgeijkcaaGreat
