/-
  The walk over plain data, and contracts of functions of the program and of its laws.
  Conditions: those that each theorem names.
-/
import Derived.Test.YtmhbmpbgpjljeaaGreatQT4
import Derived.Test.YtmhbmpbgpjljeaaGreatQT6
import Derived.Test.YtmhbmpbgpjljeaaGreatQT5
import Derived.Shelf.GgSortFunc.InsertionK
import Derived.Lone
import Derived.Calls
import Derived.Shelf.SlSortCmp.NoneTotal
namespace Go.Proofs.YtmhbmpbgpjljeaaGreat
set_option linter.unusedSimpArgs false
set_option linter.unusedVariables false
set_option linter.unusedSectionVars false
set_option maxRecDepth 4000
open Go.RowKit
set_option maxHeartbeats 400000 in
theorem zn5 (a : Li) (l : Int) (h0 : 0 <= l) (h1 : l <= 1048576) :
  FC Tryz.prog 110 [liD a, iD l] [iD (szR a.wt l)] := by
 refine zci (fun hw => ?_) Tryz.call110
 simp only [liD, zap, zab] at hw ⊢
 have hW := a.wt_eq
 have hls : True := by simp [zgk, wfT, zpc] at hw; simp [hw]
 refine zau Tryz.call110 Tryz.func110 rfl (by kernel_rfl) (za6 (by kernel_rfl)) ?_
 simp -implicitDefEqProofs only [go_sem, Tryz.results110]
 refine callF (qde a.atom l (by omega) (by omega)) (by simp -implicitDefEqProofs only [go_sem, zap, zab, zab]) ?_
 simp -implicitDefEqProofs only [go_sem, zap, zab, zab]
 refine ⟨fun h1 => ?_, fun h1 => ?_⟩
 ·have := zg1 (by omega) (show szR a.atom.wt l < 0 by simpa using h1)
  rw [zde (by  omega)]
 obtain ⟨k1, j1⟩ := zfk (show ¬ szR a.atom.wt l < 0 by simpa using h1)
 rw [show szR a.wt l = l - a.wt from zk2 (by  omega)]; exact ztf (by  omega)
set_option maxHeartbeats 400000 in
theorem zpa (a : Li) (hs : a.wt <= 1048576) : FC Tryz.prog 122 [liD a] [liD a] := by
 have hW := a.wt_eq
 simp only [liD, zap, zab]
 refine zau Tryz.call122 Tryz.func122 rfl (by kernel_rfl) (za6 (by kernel_rfl)) ?_
 simp -implicitDefEqProofs only [go_sem, Tryz.results122]
 refine callF (qd6 a.atom (by  omega)) (by simp -implicitDefEqProofs only [go_sem, zap, zab, zab]) ?_
 simp -implicitDefEqProofs only [go_sem, zap, zab, zab]
set_option maxHeartbeats 400000 in
theorem znm (a b : Li) : FC Tryz.prog 143 [liD a, liD b] [bD (same a b)] := by
 simp only [liD, zap, zab]
 refine zau Tryz.call143 Tryz.func143 rfl (by kernel_rfl) (za6 (by kernel_rfl)) ?_
 simp -implicitDefEqProofs only [go_sem, Tryz.results143]
 refine ⟨fun h1 => ?_, fun h1 => ?_⟩
 ·rw [zd2.2 (by rintro rfl; simp [zbg] at h1)]
 refine callF (zs9 a.atom b.atom) (by simp -implicitDefEqProofs only [go_sem, zap, zab, zab]) ?_
 simp -implicitDefEqProofs only [go_sem, zap, zab, zab]
 refine ⟨fun h2 => ?_, fun h2 => ?_⟩
 ·rw [zd2.2 (by rintro rfl; simp [zbg] at h2)]
 rw [zbw.2 (by cases a; cases b; simp [zbw, Li.pos, Li.atom] at h1 h2 ⊢; simp [h1, h2])]
theorem zpo (a : Li) (l : Int) (h0 : 0 <= l) (h1 : l <= 1048576) : FC Tryz.prog 110 [liD a, iD l] [iD (szR a.wt l)] := zn5 a l h0 h1
theorem zpk (a : Li) (hs : a.wt <= 1048576) : FC Tryz.prog 122 [liD a] [liD a] := zpa a hs
theorem zqm (a b : Li) : FC Tryz.prog 143 [liD a, liD b] [bD (same a b)] := znm a b
set_option maxHeartbeats 400000 in
theorem zmh (xs : List Li) (H : ∀ x ∈ xs, ∀ l : Int, 0 <= l -> l <= 1048576 -> FC Tryz.prog 110 [liD x, iD l] [iD (szR x.wt l)]) (l : Int) (h0 : 0 <= l) (h1 : l <= 1048576) :
  FC Tryz.prog 57 [.one (liS xs), iD l] [iD (szR (zm2 xs) l)] := by
 refine zci (fun hw => ?_) Tryz.call57
 have hl : xs.length <= 9223372036854775807 := by simpa [zgk, wfT] using hw.1.1
 refine zau Tryz.call57 Tryz.func57 rfl (by kernel_rfl) (za6 (by kernel_rfl)) ?_
 simp -implicitDefEqProofs only [go_sem, Tryz.results57]
 rw [zbb (by omega) (by omega)]
 have hW : zm2 xs = xs.length + (xs.map Li.wt).sum := rfl
 refine ⟨fun h => ?_, fun h => ?_⟩
 ·rw [zde (by simp at h; omega)]
 ·have hlen : (xs.length : Int) <= l := by simp at h; omega
  refine zaf (fun k : Nat => hd [(0, vT (liS xs)), (1, vI (l - xs.length - zh6 Li.wt xs k)), (5, vI k)] [] []) (fun k => k <= xs.length /\ 0 <= l - xs.length - zh6 Li.wt xs k) (fun k => xs.length - k) 0 (zaa ?_) ?_ ?_
  ·simp -implicitDefEqProofs only [go_sem]
   simp [zdj]
  ·simpa [zdj] using hlen
  ·intro k ⟨hk, hp⟩
   by_cases hlt : k < xs.length
   ·have hs := zbm Li.wt xs k hlt
    have hs2 := zb7 Li.wt xs (k + 1)
    simp -implicitDefEqProofs only [go_sem, List.length_map, zad, hlt, zap, zab]
    refine callF (H xs[k] (List.getElem_mem hlt) (l - xs.length - zh6 Li.wt xs k) hp (by omega)) (by simp -implicitDefEqProofs only [go_sem, zap, zab]) ?_
    simp -implicitDefEqProofs only [go_sem, zap, zab]
    refine ⟨fun h => ?_, fun h => ?_⟩
    ·have := zg1 hp (by simpa using h)
     rw [zde (by omega)]
    ·obtain ⟨h2, h3⟩ := zfk (by simpa using h)
     rw [zam (by omega)]
     exact ⟨k + 1, ⟨hlt, by omega⟩, by omega, zaa (by simp -implicitDefEqProofs only [go_sem]; rw [h3]; congr 1; omega)⟩
   ·simp -implicitDefEqProofs only [go_sem, List.length_map, hlt]
    have hall := zlh Li.wt xs k (by omega)
    rw [hall, zk2 (by omega)]; congr 1; omega
set_option maxHeartbeats 400000 in
theorem zmo (xs : List Li) (H : ∀ x ∈ xs, FC Tryz.prog 122 [liD x] [liD x]) (hs : xs.length <= 1048576) :
  FC Tryz.prog 68 [.one (liS xs)] [.one (liS xs)] := by
 refine zci (fun hw => ?_) Tryz.call68
 refine zau Tryz.call68 Tryz.func68 rfl (by kernel_rfl) (za6 (by kernel_rfl)) ?_
 simp -implicitDefEqProofs only [go_sem, Tryz.results68]
 refine qdb (by simp -implicitDefEqProofs only [go_sem]; omega) ?_
 simp -implicitDefEqProofs only [go_sem]
 refine zaf (fun k : Nat => hd [(0, vT (liS xs)), (3, .one (.ow 224 0)), (4, vI k)] [] [(224, ⟨true, 3, (xs.take k).map liC ++ List.replicate (xs.length - k) [T.bool false, T.str [], T.sl 2 []], 0, true⟩)]) (fun k => k <= xs.length) (fun k => xs.length - k) 0 (zaa ?_) ?_ ?_
 ·simp -implicitDefEqProofs only [go_sem]
  simp
 ·simp
 ·intro k hk
  by_cases hlt : k < xs.length
  ·have hlen : ((xs.take k).map liC ++ List.replicate (xs.length - k) [T.bool false, T.str [], T.sl 2 []]).length = xs.length := by simp; omega
   have hlt2 : k < k + (xs.length - k) := by omega
   simp -implicitDefEqProofs only [go_sem, List.length_map, zad, hlt, zap, zab]
   refine callF (H xs[k] (List.getElem_mem hlt)) (by simp -implicitDefEqProofs only [go_sem, zap, zab, hlen, hlt, List.length_append, List.length_map, List.length_take, List.length_replicate, Nat.min_eq_left hk, hlt2]) ?_
   simp -implicitDefEqProofs only [go_sem, zap, zab, hlen, hlt, List.length_append, List.length_map, List.length_take, List.length_replicate, Nat.min_eq_left hk, hlt2]
   refine zhp (by simp -implicitDefEqProofs only [go_sem]; simp) ?_
   simp -implicitDefEqProofs only [go_sem]
   rw [zam (by omega)]
   refine ⟨k + 1, by omega, by omega, zaa ?_⟩
   simp -implicitDefEqProofs only [go_sem]
   have hf := zf2 ((xs.take k).map liC) xs.length k [T.bool false, T.str [], T.sl 2 []] (liC xs[k]) (by simp; omega) hlt (by simp [zap, zab])
   simp only [zap, zab] at hf
   rw [hf, List.take_succ_eq_append_getElem hlt, List.map_append, List.map_singleton]
   simp only [zap, zab]
  ·simp -implicitDefEqProofs only [go_sem, List.length_map, hlt]
   simp [List.take_of_length_le (show xs.length <= k by omega), show xs.length - k = 0 by omega]
set_option maxHeartbeats 400000 in
theorem zlj (xs ys : List Li) (H : ∀ x ∈ xs, ∀ y, FC Tryz.prog 143 [liD x, liD y] [bD (same x y)]) :
  FC Tryz.prog 83 [.one (liS xs), .one (liS ys)] [bD (same xs ys)] := by
 refine zci (fun hw => ?_) Tryz.call83
 have hl : xs.length <= 9223372036854775807 := by simpa [zgk, wfT] using hw.1.1
 have hl2 : ys.length <= 9223372036854775807 := by simpa [zgk, wfT] using hw.2.1.1
 refine zau Tryz.call83 Tryz.func83 rfl (by kernel_rfl) (za6 (by kernel_rfl)) ?_
 simp -implicitDefEqProofs only [go_sem, Tryz.results83]
 refine ⟨fun h => ?_, fun h => ?_⟩
 ·rw [zd2.2 (by rintro rfl; simp at h)]
 ·have hlen : xs.length = ys.length := by simp at h; omega
  refine zaf (fun k : Nat => hd [(0, vT (liS xs)), (1, vT (liS ys)), (4, vB false), (5, vI k)] [] []) (fun k => k <= xs.length /\ same xs ys = same (xs.drop k) (ys.drop k)) (fun k => xs.length - k) 0 (zaa ?_) ?_ ?_
  ·simp -implicitDefEqProofs only [go_sem]
  ·simp
  ·intro k ⟨hk, hr⟩
   by_cases hlt : k < xs.length
   ·have hk2 : k < ys.length := by omega
    simp -implicitDefEqProofs only [go_sem, List.length_map, hlt]
    refine drawn (by kernel_rfl) ?_
    simp -implicitDefEqProofs only [go_sem, List.length_map, zad, hlt, hk2, zap, zab]
    refine zay (H xs[k] (List.getElem_mem hlt) ys[k]) (by simp -implicitDefEqProofs only [go_sem, zap, zab]) ?_
    simp -implicitDefEqProofs only [go_sem, zap, zab]
    refine ⟨by kernel_rfl, fun h => ?_, fun h => ?_⟩
    ·rw [hr, List.drop_eq_getElem_cons hlt, List.drop_eq_getElem_cons hk2, zc4, show same xs[k] ys[k] = false by simpa using h]; rfl
    ·rw [List.drop_eq_getElem_cons hlt, List.drop_eq_getElem_cons hk2, zc4, show same xs[k] ys[k] = true by simpa using h, Bool.true_and] at hr
     rw [zam (by omega)]
     exact ⟨k + 1, ⟨by omega, hr⟩, by omega, zaa (by simp -implicitDefEqProofs only [go_sem])⟩
   ·simp -implicitDefEqProofs only [go_sem, List.length_map, hlt]
    rw [hr, List.drop_of_length_le (by omega), List.drop_of_length_le (by omega), zie]
theorem znk (xs : List Li) (l : Int) (h0 : 0 <= l) (h1 : l <= 1048576) : FC Tryz.prog 57 [.one (liS xs), iD l] [iD (szR (zm2 xs) l)] := zmh xs (fun x _ l h0 h1 => zpo x l h0 h1) l h0 h1
theorem zny (xs : List Li) (hs : zm2 xs <= 1048576) : FC Tryz.prog 68 [.one (liS xs)] [.one (liS xs)] := by
 have hW : zm2 xs = xs.length + (xs.map Li.wt).sum := rfl
 exact zmo xs (fun x hx => zpk x (by have := zcr Li.wt xs x hx; omega)) (by omega)
theorem znv (xs ys : List Li) : FC Tryz.prog 83 [.one (liS xs), .one (liS ys)] [bD (same xs ys)] := zlj xs ys fun x _ y => zqm x y
set_option maxHeartbeats 400000 in
theorem zq2 (a : Cq) (l : Int) (h0 : 0 <= l) (h1 : l <= 1048576) :
  FC Tryz.prog 20 [cqD a, iD l] [iD (szR a.wt l)] := by
 refine zci (fun hw => ?_) Tryz.call20
 simp only [cqD, za9, zap, zab] at hw ⊢
 have hW := a.wt_eq
 have hls : True := by simp [zgk, wfT, zpc] at hw; simp [hw]
 refine zau Tryz.call20 Tryz.func20 rfl (by kernel_rfl) (za6 (by kernel_rfl)) ?_
 simp -implicitDefEqProofs only [go_sem, Tryz.results20]
 refine callF (znk a.lits l (by omega) (by omega)) (by simp -implicitDefEqProofs only [go_sem, za9, zap, zab]) ?_
 simp -implicitDefEqProofs only [go_sem, za9, zap, zab]
 refine ⟨fun h1 => ?_, fun h1 => ?_⟩
 ·have := zg1 (by omega) (show szR (zm2 a.lits) l < 0 by simpa using h1)
  rw [zde (by have hu0 : zm2 a.lits = a.lits.length + (a.lits.map Li.wt).sum := rfl;  omega)]
 obtain ⟨k1, j1⟩ := zfk (show ¬ szR (zm2 a.lits) l < 0 by simpa using h1)
 rw [show szR a.wt l = l - a.wt from zk2 (by have hu0 : zm2 a.lits = a.lits.length + (a.lits.map Li.wt).sum := rfl;  omega)]; exact ztf (by have hu0 : zm2 a.lits = a.lits.length + (a.lits.map Li.wt).sum := rfl;  omega)
set_option maxHeartbeats 400000 in
theorem zp8 (a : Cq) (hs : a.wt <= 1048576) : FC Tryz.prog 25 [cqD a] [cqD a] := by
 have hW := a.wt_eq
 simp only [cqD, za9, zap, zab]
 refine zau Tryz.call25 Tryz.func25 rfl (by kernel_rfl) (za6 (by kernel_rfl)) ?_
 simp -implicitDefEqProofs only [go_sem, Tryz.results25]
 refine callF (zny a.lits (by have hu0 : zm2 a.lits = a.lits.length + (a.lits.map Li.wt).sum := rfl;  omega)) (by simp -implicitDefEqProofs only [go_sem, za9, zap, zab]) ?_
 simp -implicitDefEqProofs only [go_sem, za9, zap, zab]
set_option maxHeartbeats 400000 in
theorem zp2 (a b : Cq) : FC Tryz.prog 33 [cqD a, cqD b] [bD (same a b)] := by
 simp only [cqD, za9, zap, zab]
 refine zau Tryz.call33 Tryz.func33 rfl (by kernel_rfl) (za6 (by kernel_rfl)) ?_
 simp -implicitDefEqProofs only [go_sem, Tryz.results33]
 refine callF (znv a.lits b.lits) (by simp -implicitDefEqProofs only [go_sem, za9, zap, zab]) ?_
 simp -implicitDefEqProofs only [go_sem, za9, zap, zab]
 refine ⟨fun h1 => ?_, fun h1 => ?_⟩
 ·rw [zd2.2 (by rintro rfl; simp [zbg] at h1)]
 rw [zbw.2 (by cases a; cases b; simp [zbw, Cq.lits] at h1 ⊢; simp [h1])]
theorem zvp (a : Cq) (l : Int) (h0 : 0 <= l) (h1 : l <= 1048576) : FC Tryz.prog 20 [cqD a, iD l] [iD (szR a.wt l)] := zq2 a l h0 h1
theorem zvt (a : Cq) (hs : a.wt <= 1048576) : FC Tryz.prog 25 [cqD a] [cqD a] := zp8 a hs
theorem zuw (a b : Cq) : FC Tryz.prog 33 [cqD a, cqD b] [bD (same a b)] := zp2 a b
set_option maxHeartbeats 400000 in
theorem zok (xs : List Cq) (H : ∀ x ∈ xs, ∀ l : Int, 0 <= l -> l <= 1048576 -> FC Tryz.prog 20 [cqD x, iD l] [iD (szR x.wt l)]) (l : Int) (h0 : 0 <= l) (h1 : l <= 1048576) :
  FC Tryz.prog 6 [.one (cqS xs), iD l] [iD (szR (znb xs) l)] := by
 refine zci (fun hw => ?_) Tryz.call6
 have hl : xs.length <= 9223372036854775807 := by simpa [zgk, wfT] using hw.1.1
 refine zau Tryz.call6 Tryz.func6 rfl (by kernel_rfl) (za6 (by kernel_rfl)) ?_
 simp -implicitDefEqProofs only [go_sem, Tryz.results6]
 rw [zbb (by omega) (by omega)]
 have hW : znb xs = xs.length + (xs.map Cq.wt).sum := rfl
 refine ⟨fun h => ?_, fun h => ?_⟩
 ·rw [zde (by simp at h; omega)]
 ·have hlen : (xs.length : Int) <= l := by simp at h; omega
  refine zaf (fun k : Nat => hd [(0, vT (cqS xs)), (1, vI (l - xs.length - zh6 Cq.wt xs k)), (5, vI k)] [] []) (fun k => k <= xs.length /\ 0 <= l - xs.length - zh6 Cq.wt xs k) (fun k => xs.length - k) 0 (zaa ?_) ?_ ?_
  ·simp -implicitDefEqProofs only [go_sem]
   simp [zdj]
  ·simpa [zdj] using hlen
  ·intro k ⟨hk, hp⟩
   by_cases hlt : k < xs.length
   ·have hs := zbm Cq.wt xs k hlt
    have hs2 := zb7 Cq.wt xs (k + 1)
    simp -implicitDefEqProofs only [go_sem, List.length_map, zad, hlt, za9, zap, zab]
    refine callF (H xs[k] (List.getElem_mem hlt) (l - xs.length - zh6 Cq.wt xs k) hp (by omega)) (by simp -implicitDefEqProofs only [go_sem, za9, zap, zab]) ?_
    simp -implicitDefEqProofs only [go_sem, za9, zap, zab]
    refine ⟨fun h => ?_, fun h => ?_⟩
    ·have := zg1 hp (by simpa using h)
     rw [zde (by omega)]
    ·obtain ⟨h2, h3⟩ := zfk (by simpa using h)
     rw [zam (by omega)]
     exact ⟨k + 1, ⟨hlt, by omega⟩, by omega, zaa (by simp -implicitDefEqProofs only [go_sem]; rw [h3]; congr 1; omega)⟩
   ·simp -implicitDefEqProofs only [go_sem, List.length_map, hlt]
    have hall := zlh Cq.wt xs k (by omega)
    rw [hall, zk2 (by omega)]; congr 1; omega
set_option maxHeartbeats 400000 in
theorem znj (xs : List Cq) (H : ∀ x ∈ xs, FC Tryz.prog 25 [cqD x] [cqD x]) (hs : xs.length <= 1048576) :
  FC Tryz.prog 8 [.one (cqS xs)] [.one (cqS xs)] := by
 refine zci (fun hw => ?_) Tryz.call8
 refine zau Tryz.call8 Tryz.func8 rfl (by kernel_rfl) (za6 (by kernel_rfl)) ?_
 simp -implicitDefEqProofs only [go_sem, Tryz.results8]
 refine qdb (by simp -implicitDefEqProofs only [go_sem]; omega) ?_
 simp -implicitDefEqProofs only [go_sem]
 refine zaf (fun k : Nat => hd [(0, vT (cqS xs)), (3, .one (.ow 224 0)), (4, vI k)] [] [(224, ⟨true, 1, (xs.take k).map cqC ++ List.replicate (xs.length - k) [T.sl 3 []], 0, true⟩)]) (fun k => k <= xs.length) (fun k => xs.length - k) 0 (zaa ?_) ?_ ?_
 ·simp -implicitDefEqProofs only [go_sem]
  simp
 ·simp
 ·intro k hk
  by_cases hlt : k < xs.length
  ·have hlen : ((xs.take k).map cqC ++ List.replicate (xs.length - k) [T.sl 3 []]).length = xs.length := by simp; omega
   have hlt2 : k < k + (xs.length - k) := by omega
   simp -implicitDefEqProofs only [go_sem, List.length_map, zad, hlt, za9, zap, zab]
   refine callF (H xs[k] (List.getElem_mem hlt)) (by simp -implicitDefEqProofs only [go_sem, za9, zap, zab, hlen, hlt, List.length_append, List.length_map, List.length_take, List.length_replicate, Nat.min_eq_left hk, hlt2]) ?_
   simp -implicitDefEqProofs only [go_sem, za9, zap, zab, hlen, hlt, List.length_append, List.length_map, List.length_take, List.length_replicate, Nat.min_eq_left hk, hlt2]
   refine zhp (by simp -implicitDefEqProofs only [go_sem]; simp) ?_
   simp -implicitDefEqProofs only [go_sem]
   rw [zam (by omega)]
   refine ⟨k + 1, by omega, by omega, zaa ?_⟩
   simp -implicitDefEqProofs only [go_sem]
   have hf := zf2 ((xs.take k).map cqC) xs.length k [T.sl 3 []] (cqC xs[k]) (by simp; omega) hlt (by simp [za9, zap, zab])
   simp only [za9, zap, zab] at hf
   rw [hf, List.take_succ_eq_append_getElem hlt, List.map_append, List.map_singleton]
   simp only [za9, zap, zab]
  ·simp -implicitDefEqProofs only [go_sem, List.length_map, hlt]
   simp [List.take_of_length_le (show xs.length <= k by omega), show xs.length - k = 0 by omega]
set_option maxHeartbeats 400000 in
theorem zos (xs ys : List Cq) (H : ∀ x ∈ xs, ∀ y, FC Tryz.prog 33 [cqD x, cqD y] [bD (same x y)]) :
  FC Tryz.prog 10 [.one (cqS xs), .one (cqS ys)] [bD (same xs ys)] := by
 refine zci (fun hw => ?_) Tryz.call10
 have hl : xs.length <= 9223372036854775807 := by simpa [zgk, wfT] using hw.1.1
 have hl2 : ys.length <= 9223372036854775807 := by simpa [zgk, wfT] using hw.2.1.1
 refine zau Tryz.call10 Tryz.func10 rfl (by kernel_rfl) (za6 (by kernel_rfl)) ?_
 simp -implicitDefEqProofs only [go_sem, Tryz.results10]
 refine ⟨fun h => ?_, fun h => ?_⟩
 ·rw [zd2.2 (by rintro rfl; simp at h)]
 ·have hlen : xs.length = ys.length := by simp at h; omega
  refine zaf (fun k : Nat => hd [(0, vT (cqS xs)), (1, vT (cqS ys)), (4, vB false), (5, vI k)] [] []) (fun k => k <= xs.length /\ same xs ys = same (xs.drop k) (ys.drop k)) (fun k => xs.length - k) 0 (zaa ?_) ?_ ?_
  ·simp -implicitDefEqProofs only [go_sem]
  ·simp
  ·intro k ⟨hk, hr⟩
   by_cases hlt : k < xs.length
   ·have hk2 : k < ys.length := by omega
    simp -implicitDefEqProofs only [go_sem, List.length_map, hlt]
    refine drawn (by kernel_rfl) ?_
    simp -implicitDefEqProofs only [go_sem, List.length_map, zad, hlt, hk2, za9, zap, zab]
    refine zay (H xs[k] (List.getElem_mem hlt) ys[k]) (by simp -implicitDefEqProofs only [go_sem, za9, zap, zab]) ?_
    simp -implicitDefEqProofs only [go_sem, za9, zap, zab]
    refine ⟨by kernel_rfl, fun h => ?_, fun h => ?_⟩
    ·rw [hr, List.drop_eq_getElem_cons hlt, List.drop_eq_getElem_cons hk2, zc4, show same xs[k] ys[k] = false by simpa using h]; rfl
    ·rw [List.drop_eq_getElem_cons hlt, List.drop_eq_getElem_cons hk2, zc4, show same xs[k] ys[k] = true by simpa using h, Bool.true_and] at hr
     rw [zam (by omega)]
     exact ⟨k + 1, ⟨by omega, hr⟩, by omega, zaa (by simp -implicitDefEqProofs only [go_sem])⟩
   ·simp -implicitDefEqProofs only [go_sem, List.length_map, hlt]
    rw [hr, List.drop_of_length_le (by omega), List.drop_of_length_le (by omega), zie]
theorem zq3 (xs : List Cq) (l : Int) (h0 : 0 <= l) (h1 : l <= 1048576) : FC Tryz.prog 6 [.one (cqS xs), iD l] [iD (szR (znb xs) l)] := zok xs (fun x _ l h0 h1 => zvp x l h0 h1) l h0 h1
theorem zq4 (xs : List Cq) (hs : znb xs <= 1048576) : FC Tryz.prog 8 [.one (cqS xs)] [.one (cqS xs)] := by
 have hW : znb xs = xs.length + (xs.map Cq.wt).sum := rfl
 exact znj xs (fun x hx => zvt x (by have := zcr Cq.wt xs x hx; omega)) (by omega)
theorem zq8 (xs ys : List Cq) : FC Tryz.prog 10 [.one (cqS xs), .one (cqS ys)] [bD (same xs ys)] := zos xs ys fun x _ y => zuw x y
end Go.Proofs.YtmhbmpbgpjljeaaGreat
namespace Go.Proofs.YtmhbmpbgpjljeaaGreat
set_option linter.unusedSimpArgs false
set_option linter.unusedVariables false
set_option linter.unusedSectionVars false
set_option maxRecDepth 4000
open Go.RowKit
theorem qdq (a b : Str) : FC Tryz.prog 148 [sD a, sD b] [iD (zjy a b)] := by
 have hv : zjy a b = if Op.bytesLess a b = true then -1 else if (a == b) = true then 0 else 1 := rfl
 rw [hv]
 cases h1 : Op.bytesLess a b <;> cases h2 : (a == b)
 all_goals
  refine zau Tryz.call148 Tryz.func148 rfl (by kernel_rfl) (za6 (by kernel_rfl)) ?_
  simp -implicitDefEqProofs only [go_sem, Tryz.results148, h1, h2]
  try simp
theorem zuv (a b : Tm) : zcn a b = if (za3 a.name && !za3 b.name) = true then -1 else if (za3 b.name && !za3 a.name) = true then 1 else if (a.name == b.name) = false then zjy a.name b.name
  else if a.args.length < b.args.length then -1 else if b.args.length < a.args.length then 1 else zdg a.args b.args := by
 rw [zjl]
 unfold hdT zj7
 generalize za3 a.name = x
 generalize za3 b.name = y
 by_cases hn : a.name = b.name
 ·have h0 : zjy a.name b.name = 0 := zga.2 hn
  rw [h0, hn]
  unfold qfa
  by_cases h1 : a.args.length < b.args.length
  ·cases x <;> cases y <;> simp [orE, h1]
  ·by_cases h2 : b.args.length < a.args.length
   ·cases x <;> cases y <;> simp [orE, h1, h2]
   ·cases x <;> cases y <;> simp [orE, h1, h2]
 ·have h0 : zjy a.name b.name ≠ 0 := fun h => hn (zga.1 h)
  have hb : (a.name == b.name) = false := by simpa using hn
  cases x <;> cases y <;> simp [orE, h0, hb]
set_option maxHeartbeats 1000000 in
theorem znn (a b : Tm) (H : ∀ x ∈ a.args, ∀ y, FC Tryz.prog 87 [tmD x, tmD y] [iD (zcn x y)]) : FC Tryz.prog 87 [tmD a, tmD b] [iD (zcn a b)] := by
 refine zci (fun hw => ?_) Tryz.call87
 simp only [tmD, zab] at hw ⊢
 have hl : a.args.length <= 9223372036854775807 := by simp [zgk, wfT, zpc] at hw; exact hw.1.2.1
 have hv := zuv a b
 have HV1 := zlr a.name
 have HV2 := zlr b.name
 have HT := qdq a.name b.name
 by_cases hxy : za3 a.name = za3 b.name
 ·rw [hxy] at HV1 hv
  rw [Bool.and_not_self, if_neg (by simp), if_neg (by simp)] at hv
  generalize za3 b.name = x at HV1 HV2
  cases x
  all_goals
   cases hn : (a.name == b.name)
   ·rw [hn, if_pos rfl] at hv
    rw [hv]
    have hn' : (a.name != b.name) = true := by simp [bne, hn]
    generalize zjy a.name b.name = r at HT
    refine zau Tryz.call87 Tryz.func87 rfl (by kernel_rfl) (za6 (by kernel_rfl)) ?_
    simp -implicitDefEqProofs only [go_sem, Tryz.results87]
    refine drawn (by kernel_rfl) ?_
    simp -implicitDefEqProofs only [go_sem]
    refine zay (HV1) (by simp -implicitDefEqProofs only [go_sem]) ?_
    simp -implicitDefEqProofs only [go_sem]
    refine zay (HV2) (by simp -implicitDefEqProofs only [go_sem]) ?_
    simp -implicitDefEqProofs only [go_sem]
    refine ⟨by kernel_rfl, ?_⟩
    simp -implicitDefEqProofs only [go_sem, hn, hn']
    refine callF (HT) (by simp -implicitDefEqProofs only [go_sem]) ?_
    simp -implicitDefEqProofs only [go_sem]
   ·rw [hn, if_neg (by simp)] at hv
    have hn' : (a.name != b.name) = false := by simp [bne, hn]
    refine zau Tryz.call87 Tryz.func87 rfl (by kernel_rfl) (za6 (by kernel_rfl)) ?_
    simp -implicitDefEqProofs only [go_sem, Tryz.results87]
    refine drawn (by kernel_rfl) ?_
    simp -implicitDefEqProofs only [go_sem]
    refine zay (HV1) (by simp -implicitDefEqProofs only [go_sem]) ?_
    simp -implicitDefEqProofs only [go_sem]
    refine zay (HV2) (by simp -implicitDefEqProofs only [go_sem]) ?_
    simp -implicitDefEqProofs only [go_sem]
    refine ⟨by kernel_rfl, ?_⟩
    simp -implicitDefEqProofs only [go_sem, hn, hn']
    refine ⟨fun h1 => ?_, fun h1 => ⟨fun h2 => ?_, fun h2 => ?_⟩⟩
    ·rw [hv, if_pos (by simpa using h1)]
    ·rw [hv, if_neg (by simpa using h1), if_pos (by simpa using h2)]
    ·rw [if_neg (by simpa using h1), if_neg (by simpa using h2)] at hv
     have hlen : a.args.length = b.args.length := by simp at h1 h2; omega
     refine zaf (fun k : Nat => hd [(2, .one (.bx 2 0)), (3, .one (.bx 3 0)), (7, vI k)] [(2, [.t (.str a.name), .t (tmS a.args)]), (3, [.t (.str b.name), .t (tmS b.args)])] []) (fun k => k <= a.args.length /\ zcn a b = zdg (a.args.drop k) (b.args.drop k)) (fun k => a.args.length - k) 0 (zaa ?_) ⟨Nat.zero_le _, by simpa using hv⟩ ?_
     ·simp -implicitDefEqProofs only [go_sem]
     ·intro k ⟨hk, hr⟩
      by_cases hlt : k < a.args.length
      ·have hk2 : k < b.args.length := by omega
       have HC := H a.args[k] (List.getElem_mem hlt) b.args[k]
       rw [List.drop_eq_getElem_cons hlt, List.drop_eq_getElem_cons hk2, zdg] at hr
       generalize zcn a.args[k] b.args[k] = c at HC hr
       simp only [tmD, zab a.args[k], zab b.args[k]] at HC
       simp -implicitDefEqProofs only [go_sem, hlt]
       refine drawn (by kernel_rfl) ?_
       simp -implicitDefEqProofs only [go_sem, hlt, hk2, zad, zab a.args[k], zab b.args[k]]
       refine zay (HC) (by simp -implicitDefEqProofs only [go_sem]) ?_
       simp -implicitDefEqProofs only [go_sem]
       refine ⟨by kernel_rfl, fun h => ?_, fun h => ?_⟩
       ·have : c ≠ 0 := by simpa using h
        unfold orE at hr
        rw [if_neg this] at hr
        rw [hr]
       ·have : c = 0 := by simpa using h
        unfold orE at hr
        rw [if_pos this] at hr
        refine ⟨k + 1, ⟨hlt, hr⟩, by omega, zaa ?_⟩
        simp -implicitDefEqProofs only [go_sem]
        rw [zam (by omega)]
      ·rw [List.drop_of_length_le (by omega), List.drop_of_length_le (by omega), zdg] at hr
       rw [hr]
       simp -implicitDefEqProofs only [go_sem, hlt]
 ·have e : za3 b.name = !za3 a.name := by revert hxy; cases za3 a.name <;> cases za3 b.name <;> simp
  rw [e] at HV2 hv
  generalize za3 a.name = x at HV1 HV2 hv
  cases x
  all_goals
   simp only [Bool.not_true, Bool.not_false, Bool.and_self, Bool.and_false, Bool.and_true, Bool.false_and, Bool.true_and, if_true, if_false, reduceCtorEq] at HV2 hv
   rw [hv]
   refine zau Tryz.call87 Tryz.func87 rfl (by kernel_rfl) (za6 (by kernel_rfl)) ?_
   simp -implicitDefEqProofs only [go_sem, Tryz.results87]
   refine drawn (by kernel_rfl) ?_
   simp -implicitDefEqProofs only [go_sem]
   refine zay (HV1) (by simp -implicitDefEqProofs only [go_sem]) ?_
   simp -implicitDefEqProofs only [go_sem]
   refine zay (HV2) (by simp -implicitDefEqProofs only [go_sem]) ?_
   simp -implicitDefEqProofs only [go_sem]
   kernel_rfl
theorem zjh : ∀ a b : Tm, FC Tryz.prog 87 [tmD a, tmD b] [iD (zcn a b)] := zbi fun n xs ih b => znn (.mk n xs) b ih
end Go.Proofs.YtmhbmpbgpjljeaaGreat
namespace Go.Proofs.YtmhbmpbgpjljeaaGreat
set_option linter.unusedSimpArgs false
set_option linter.unusedVariables false
set_option linter.unusedSectionVars false
set_option maxRecDepth 4000
open Go.RowKit
theorem zra {l : List Tm} {t : Tm} {k : Nat} (hk : k <= l.length) (h1 : ∀ x ∈ l.take k, ltT x t = true) (h2 : ∀ h : k < l.length, ltT l[k] t = false) : zfl l t = if dec ((l.drop k).head? = some t) = true then l else l.take k ++ [t] ++ l.drop k := by
 obtain ⟨e1, e2⟩ := zml (p := fun x => ltT x t) hk h1 h2
 unfold zfl
 rw [e1, e2]
set_option maxHeartbeats 2000000 in
theorem qbw (l : List Tm) (t : Tm) (hl : l.length <= 2147483648) : RC Tryz.prog 41 [.one (tmS l), tmD t] [.one (tmS (zfl l t))] := by
 simp only [tmD, zab t]
 refine zcg Tryz.call41 Tryz.func41 rfl (by kernel_rfl) (za6 (by kernel_rfl)) ?_
 simp -implicitDefEqProofs only [go_sem, Tryz.results41]
 refine zaf (fun k : Nat => hd [(0, vT (tmS l)), (3, .one (.bx 3 0)), (5, vI k)] [(3, [.t (.str t.name), .t (tmS t.args)])] []) (fun k => k <= l.length /\ ∀ x ∈ l.take k, ltT x t = true) (fun k => l.length - k) 0 (zaa ?_) ⟨Nat.zero_le _, by simp⟩ ?_
 ·simp -implicitDefEqProofs only [go_sem]
 ·intro k ⟨hk, hr⟩
  have hm1 : min k l.length <= 4294967296 := by omega
  have hm2 : min k l.length <= 4294967295 := by omega
  have hm3 : min k l.length + 1 + (l.length - k) <= 4294967296 := by omega
  by_cases hlt : k < l.length
  ·have HC := zjh l[k] t
   have HS := qb2 l[k] t
   have hnx : ltT l[k] t = true -> ∀ x ∈ l.take (k + 1), ltT x t = true := fun hb x hx => by
    rw [List.take_succ_eq_append_getElem hlt] at hx
    rcases List.mem_append.1 hx with hx | hx
    ·exact hr x hx
    ·rw [List.mem_singleton.1 hx, hb]
   simp only [tmD, zab l[k], zab t] at HC HS
   have hcd : decide (zcn l[k] t < 0) = ltT l[k] t := rfl
   generalize zcn l[k] t = c at HC hcd
   simp -implicitDefEqProofs only [go_sem, hlt]
   refine drawn (by kernel_rfl) ?_
   simp -implicitDefEqProofs only [go_sem, hlt, zad, zab l[k]]
   refine zov (HC) (by simp -implicitDefEqProofs only [go_sem]) ?_
   simp -implicitDefEqProofs only [go_sem]
   refine ⟨by kernel_rfl, fun h => ?_, fun h => ?_⟩
   ·refine ⟨k + 1, ⟨hlt, hnx (by rw [<- hcd]; exact h)⟩, by omega, zaa ?_⟩
    simp -implicitDefEqProofs only [go_sem]
    rw [zam (by omega)]
   ·rw [h] at hcd
    have hp := zra hk hr fun _ => hcd.symm
    have hh : (l.drop k).head? = some l[k] := by rw [List.head?_drop, List.getElem?_eq_getElem hlt]
    refine drawn (by kernel_rfl) ?_
    simp -implicitDefEqProofs only [go_sem, hlt, zad, zab l[k]]
    refine zov (HS) (by simp -implicitDefEqProofs only [go_sem]) ?_
    simp -implicitDefEqProofs only [go_sem]
    refine ⟨by kernel_rfl, fun h2 => ?_, fun h2 => ?_⟩
    ·rw [hp, if_pos (by rw [hh, zdd, zbw.1 h2])]
    ·rw [if_neg (by rw [hh, zdd]; intro e; rw [Option.some.inj e, zbg] at h2; cases h2)] at hp
     refine drawn (by kernel_rfl) ?_
     simp -implicitDefEqProofs only [go_sem, hk]
     refine zbk (by simp -implicitDefEqProofs only [go_sem, hk]) ?_
     simp -implicitDefEqProofs only [go_sem, hk]
     refine zfs false (by simp -implicitDefEqProofs only [go_sem, hk, ne_eq, Nat.zero_add, hm1, hm2, hm3, zax, List.length_drop, List.length_take, List.length_append, List.length_map]) ?_
     simp -implicitDefEqProofs only [go_sem, hk, ne_eq, Nat.zero_add, hm1, hm2, hm3, zax, List.length_drop, List.length_take, List.length_append, List.length_map]
     refine zbk (by simp -implicitDefEqProofs only [go_sem, hk]) ?_
     simp -implicitDefEqProofs only [go_sem, hk]
     refine zfs false (by simp -implicitDefEqProofs only [go_sem, hk, ne_eq, Nat.zero_add, hm1, hm2, hm3, zax, List.length_drop, List.length_take, List.length_append, List.length_map]) ?_
     simp -implicitDefEqProofs only [go_sem, hk, ne_eq, Nat.zero_add, hm1, hm2, hm3, zax, List.length_drop, List.length_take, List.length_append, List.length_map]
     refine zfs false (by simp -implicitDefEqProofs only [go_sem, hk, ne_eq, Nat.zero_add, hm1, hm2, hm3, zax, List.length_drop, List.length_take, List.length_append, List.length_map]) ?_
     simp -implicitDefEqProofs only [go_sem, hk, ne_eq, Nat.zero_add, hm1, hm2, hm3, zax, List.length_drop, List.length_take, List.length_append, List.length_map]
     refine ⟨by kernel_rfl, ?_⟩
     rw [hp, List.map_append, List.map_append, List.map_take, List.map_drop, List.map_singleton, zab t]
  ·have hp := zra hk hr fun h => absurd h hlt
   rw [if_neg (by rw [List.drop_of_length_le (by omega), zdd]; simp)] at hp
   simp -implicitDefEqProofs only [go_sem, hlt]
   refine drawn (by kernel_rfl) ?_
   simp -implicitDefEqProofs only [go_sem, hlt]
   refine ⟨by kernel_rfl, ?_⟩
   refine drawn (by kernel_rfl) ?_
   simp -implicitDefEqProofs only [go_sem, hlt]
   refine ⟨by kernel_rfl, ?_⟩
   refine drawn (by kernel_rfl) ?_
   simp -implicitDefEqProofs only [go_sem, hk]
   refine zbk (by simp -implicitDefEqProofs only [go_sem, hk]) ?_
   simp -implicitDefEqProofs only [go_sem, hk]
   refine zfs false (by simp -implicitDefEqProofs only [go_sem, hk, ne_eq, Nat.zero_add, hm1, hm2, hm3, zax, List.length_drop, List.length_take, List.length_append, List.length_map]) ?_
   simp -implicitDefEqProofs only [go_sem, hk, ne_eq, Nat.zero_add, hm1, hm2, hm3, zax, List.length_drop, List.length_take, List.length_append, List.length_map]
   refine zbk (by simp -implicitDefEqProofs only [go_sem, hk]) ?_
   simp -implicitDefEqProofs only [go_sem, hk]
   refine zfs false (by simp -implicitDefEqProofs only [go_sem, hk, ne_eq, Nat.zero_add, hm1, hm2, hm3, zax, List.length_drop, List.length_take, List.length_append, List.length_map]) ?_
   simp -implicitDefEqProofs only [go_sem, hk, ne_eq, Nat.zero_add, hm1, hm2, hm3, zax, List.length_drop, List.length_take, List.length_append, List.length_map]
   refine zfs false (by simp -implicitDefEqProofs only [go_sem, hk, ne_eq, Nat.zero_add, hm1, hm2, hm3, zax, List.length_drop, List.length_take, List.length_append, List.length_map]) ?_
   simp -implicitDefEqProofs only [go_sem, hk, ne_eq, Nat.zero_add, hm1, hm2, hm3, zax, List.length_drop, List.length_take, List.length_append, List.length_map]
   refine ⟨by kernel_rfl, ?_⟩
   rw [hp, List.map_append, List.map_append, List.map_take, List.map_drop, List.map_singleton, zab t]
end Go.Proofs.YtmhbmpbgpjljeaaGreat
namespace Go.Proofs.YtmhbmpbgpjljeaaGreat
set_option linter.unusedSimpArgs false
set_option linter.unusedVariables false
set_option linter.unusedSectionVars false
set_option maxRecDepth 4000
open Go.RowKit
theorem zt1 (x : Int) : FC Tryz.prog 215 [iD x] [bD false] := by
 refine zau Tryz.call215 Tryz.func215 rfl (by kernel_rfl) (za6 (by kernel_rfl)) ?_
 simp -implicitDefEqProofs only [go_sem, Tryz.results215]
 simp
def zj3 (a b : Int) : Int := if a < b then -1 else if b < a then 1 else 0
theorem zmc (x y : Int) : FC Tryz.prog 164 [iD x, iD y] [iD (zj3 x y)] := by
 have hc : zj3 x y = if x < y then -1 else if y < x then 1 else 0 := rfl
 refine zau Tryz.call164 Tryz.func164 rfl (by kernel_rfl) (za6 (by kernel_rfl)) ?_
 simp -implicitDefEqProofs only [go_sem, Tryz.results164]
 refine callF (zt1 x) (by simp -implicitDefEqProofs only [go_sem]) ?_
 simp -implicitDefEqProofs only [go_sem]
 refine callF (zt1 y) (by simp -implicitDefEqProofs only [go_sem]) ?_
 simp -implicitDefEqProofs only [go_sem]
 refine ⟨fun h => ?_, fun h => ⟨fun h2 => ?_, fun h2 => ?_⟩⟩
 ·rw [hc, if_pos (by simpa using h)]
 ·rw [hc, if_neg (by simpa using h), if_pos (by simpa using h2)]
 ·rw [hc, if_neg (by simpa using h), if_neg (by simpa using h2)]
theorem qcr (m n : Nat) : zj3 (m : Int) (n : Int) = qfa m n := by
 unfold zj3 qfa
 simp only [Int.ofNat_lt]
theorem zpx (x y : Int) : FC Tryz.prog 162 [.one (.sl 1 [[.int .i64 x], [.int .i64 y]])] [iD (orE x y)] := by
 have hv : orE x y = if x = 0 then y else x := rfl
 refine zau Tryz.call162 Tryz.func162 rfl (by kernel_rfl) (za6 (by kernel_rfl)) ?_
 simp -implicitDefEqProofs only [go_sem, Tryz.results162]
 refine zaf (fun k : Nat => hd [(3, vI 0), (6, vT (.sl 1 [[.int .i64 x], [.int .i64 y]])), (7, vI (2 : Nat)), (8, vI k)] [] []) (fun k => k = 0 \/ (k = 1 /\ x = 0) \/ (k = 2 /\ x = 0 /\ y = 0)) (fun k => 2 - k) 0 (zaa ?_) (Or.inl rfl) ?_
 ·simp -implicitDefEqProofs only [go_sem]
 ·rintro k (rfl | ⟨rfl, hx⟩ | ⟨rfl, hx, hy⟩)
  ·simp -implicitDefEqProofs only [go_sem, List.getD_cons_zero, List.length_cons, List.length_nil]
   refine ⟨fun h => ?_, fun h => ?_⟩
   ·rw [hv, if_neg (by simpa using h)]
   ·refine ⟨1, Or.inr (Or.inl ⟨rfl, by simpa using h⟩), by omega, zaa ?_⟩
    simp -implicitDefEqProofs only [go_sem]
    rfl
  ·simp -implicitDefEqProofs only [go_sem, List.getD_cons_zero, List.getD_cons_succ, List.length_cons, List.length_nil]
   refine ⟨fun h => ?_, fun h => ?_⟩
   ·rw [hv, if_pos hx]
   ·refine ⟨2, Or.inr (Or.inr ⟨rfl, hx, by simpa using h⟩), by omega, zaa ?_⟩
    simp -implicitDefEqProofs only [go_sem]
    rfl
  ·simp -implicitDefEqProofs only [go_sem, List.length_cons, List.length_nil]
   rw [hv, if_pos hx, hy]
theorem zk8 (xs ys : List Tm) (hl : xs.length = ys.length) (H : ∀ x ∈ xs, ∀ y ∈ ys, FC Tryz.prog 100 [tmD x, tmD y] [iD (zcn x y)]) : FC Tryz.prog 165 [.one (tmS xs), .one (tmS ys), .one (.fn 100 [])] [iD (zdg xs ys)] := by
 refine zci (fun hw => ?_) Tryz.call165
 have hm : xs.length <= 9223372036854775807 := by simpa [zgk, wfT] using hw.1.1
 have hlt0 : ((xs.length : Int) < (ys.length : Int)) = False := eq_false (by omega)
 refine zau Tryz.call165 Tryz.func165 rfl (by kernel_rfl) (za6 (by kernel_rfl)) ?_
 simp -implicitDefEqProofs only [go_sem, Tryz.results165]
 refine zaf (fun k : Nat => hd [(0, vT (tmS xs)), (1, vT (tmS ys)), (2, vT (.fn 100 [])), (11, vT (tmS xs)), (12, vI xs.length), (13, vI k)] [] []) (fun k => k <= xs.length /\ zdg xs ys = zdg (xs.drop k) (ys.drop k)) (fun k => xs.length - k) 0 (zaa ?_) ⟨Nat.zero_le _, by simp⟩ ?_
 ·simp -implicitDefEqProofs only [go_sem]
 ·intro k ⟨hk, hr⟩
  by_cases hlt : k < xs.length
  ·have hk2 : k < ys.length := by omega
   have hk3 : ((ys.length : Int) <= (k : Int)) = False := eq_false (by omega)
   have HC := H xs[k] (List.getElem_mem hlt) ys[k] (List.getElem_mem hk2)
   rw [List.drop_eq_getElem_cons hlt, List.drop_eq_getElem_cons hk2, zdg] at hr
   generalize zcn xs[k] ys[k] = c at HC hr
   simp only [tmD, zab xs[k], zab ys[k]] at HC
   simp -implicitDefEqProofs only [go_sem, hlt, hk2, hk3, zad, zab xs[k], zab ys[k]]
   refine callF (HC) (by simp -implicitDefEqProofs only [go_sem]) ?_
   simp -implicitDefEqProofs only [go_sem]
   refine ⟨fun h => ?_, fun h => ?_⟩
   ·have : c ≠ 0 := by simpa using h
    unfold orE at hr
    rw [if_neg this] at hr
    rw [hr]
   ·have : c = 0 := by simpa using h
    unfold orE at hr
    rw [if_pos this] at hr
    refine ⟨k + 1, ⟨hlt, hr⟩, by omega, zaa ?_⟩
    simp -implicitDefEqProofs only [go_sem]
    rw [zam (by omega)]
  ·rw [List.drop_of_length_le (by omega), List.drop_of_length_le (by omega), zdg] at hr
   rw [hr]
   simp -implicitDefEqProofs only [go_sem, hlt, hlt0]
theorem zq0 {a : Tm} (h : upT a = true) : 0 < a.name.length /\ zhx (a.name.getD 0 0) = za3 a.name /\ ∀ x ∈ a.args, upT x = true := by
 rw [zku, Bool.and_eq_true, Bool.and_eq_true, decide_eq_true_eq, beq_iff_eq, List.all_eq_true] at h
 exact ⟨h.1.1, h.1.2, h.2⟩
set_option maxHeartbeats 1000000 in
theorem zjo (a b : Tm) (ha : upT a = true) (hb : upT b = true) (H : ∀ x ∈ a.args, ∀ y, upT y = true -> FC Tryz.prog 100 [tmD x, tmD y] [iD (zcn x y)]) : FC Tryz.prog 100 [tmD a, tmD b] [iD (zcn a b)] := by
 obtain ⟨na, ua, ra⟩ := zq0 ha
 obtain ⟨nb, ub, rb⟩ := zq0 hb
 have HV1 := zp0 a na
 have HV2 := zp0 b nb
 rw [ua] at HV1
 rw [ub] at HV2
 have hv := zjl a b
 have HS := ztj a.name b.name
 have HI := zmc (a.args.length : Int) (b.args.length : Int)
 have HO := zpx (zjy a.name b.name) (zj3 (a.args.length : Int) (b.args.length : Int))
 have hh : hdT a b = orE (zj7 (za3 a.name) (za3 b.name)) (orE (zjy a.name b.name) (zj3 (a.args.length : Int) (b.args.length : Int))) := by rw [qcr]; rfl
 rw [hh] at hv
 have hz : orE (zjy a.name b.name) (zj3 (a.args.length : Int) (b.args.length : Int)) = 0 -> a.args.length = b.args.length := fun h => by
  have h2 := (zty.1 h).2
  unfold zj3 at h2
  split at h2
  ·omega
  ·split at h2 <;> omega
 have HC := fun (h : a.args.length = b.args.length) => zk8 a.args b.args h fun x hx y hy => H x hx y (rb y hy)
 generalize zjy a.name b.name = s at HS HO hv hz
 generalize zj3 (a.args.length : Int) (b.args.length : Int) = z at HI HO hv hz
 generalize orE s z = r at HO hv hz
 generalize zdg a.args b.args = q at HC hv
 simp only [tmD, zab a, zab b] at HV1 HV2 ⊢
 generalize za3 a.name = x at HV1 hv
 generalize za3 b.name = y at HV2 hv
 cases x <;> cases y
 ·have hv : zcn a b = if r = 0 then q else r := hv
  refine zau Tryz.call100 Tryz.func100 rfl (by kernel_rfl) (za6 (by kernel_rfl)) ?_
  simp -implicitDefEqProofs only [go_sem, Tryz.results100]
  refine drawn (by kernel_rfl) ?_
  simp -implicitDefEqProofs only [go_sem]
  refine zay (HV1) (by simp -implicitDefEqProofs only [go_sem]) ?_
  simp -implicitDefEqProofs only [go_sem]
  refine zay (HV2) (by simp -implicitDefEqProofs only [go_sem]) ?_
  simp -implicitDefEqProofs only [go_sem]
  refine ⟨by kernel_rfl, ?_⟩
  refine drawn (by kernel_rfl) ?_
  simp -implicitDefEqProofs only [go_sem]
  refine zay (HS) (by simp -implicitDefEqProofs only [go_sem]) ?_
  simp -implicitDefEqProofs only [go_sem]
  refine zay (HI) (by simp -implicitDefEqProofs only [go_sem]) ?_
  simp -implicitDefEqProofs only [go_sem]
  refine zmr (by simp -implicitDefEqProofs only [go_sem]) ?_
  simp -implicitDefEqProofs only [go_sem]
  refine zay (HO) (by simp -implicitDefEqProofs only [go_sem]) ?_
  simp -implicitDefEqProofs only [go_sem]
  refine ⟨by kernel_rfl, fun h => ?_, fun h => ?_⟩
  ·rw [hv, if_neg (by simpa using h)]
  ·have h0 : r = 0 := by simpa using h
   rw [hv, if_pos h0]
   refine callF (HC (hz h0)) (by simp -implicitDefEqProofs only [go_sem]) ?_
   simp -implicitDefEqProofs only [go_sem]
 ·have hv : zcn a b = 1 := hv
  rw [hv]
  refine zau Tryz.call100 Tryz.func100 rfl (by kernel_rfl) (za6 (by kernel_rfl)) ?_
  simp -implicitDefEqProofs only [go_sem, Tryz.results100]
  refine drawn (by kernel_rfl) ?_
  simp -implicitDefEqProofs only [go_sem]
  refine zay (HV1) (by simp -implicitDefEqProofs only [go_sem]) ?_
  simp -implicitDefEqProofs only [go_sem]
  refine zay (HV2) (by simp -implicitDefEqProofs only [go_sem]) ?_
  simp -implicitDefEqProofs only [go_sem]
  kernel_rfl
 ·have hv : zcn a b = -1 := hv
  rw [hv]
  refine zau Tryz.call100 Tryz.func100 rfl (by kernel_rfl) (za6 (by kernel_rfl)) ?_
  simp -implicitDefEqProofs only [go_sem, Tryz.results100]
  refine drawn (by kernel_rfl) ?_
  simp -implicitDefEqProofs only [go_sem]
  refine zay (HV1) (by simp -implicitDefEqProofs only [go_sem]) ?_
  simp -implicitDefEqProofs only [go_sem]
  refine zay (HV2) (by simp -implicitDefEqProofs only [go_sem]) ?_
  simp -implicitDefEqProofs only [go_sem]
  kernel_rfl
 ·have hv : zcn a b = if r = 0 then q else r := hv
  refine zau Tryz.call100 Tryz.func100 rfl (by kernel_rfl) (za6 (by kernel_rfl)) ?_
  simp -implicitDefEqProofs only [go_sem, Tryz.results100]
  refine drawn (by kernel_rfl) ?_
  simp -implicitDefEqProofs only [go_sem]
  refine zay (HV1) (by simp -implicitDefEqProofs only [go_sem]) ?_
  simp -implicitDefEqProofs only [go_sem]
  refine zay (HV2) (by simp -implicitDefEqProofs only [go_sem]) ?_
  simp -implicitDefEqProofs only [go_sem]
  refine ⟨by kernel_rfl, ?_⟩
  refine drawn (by kernel_rfl) ?_
  simp -implicitDefEqProofs only [go_sem]
  refine zay (HS) (by simp -implicitDefEqProofs only [go_sem]) ?_
  simp -implicitDefEqProofs only [go_sem]
  refine zay (HI) (by simp -implicitDefEqProofs only [go_sem]) ?_
  simp -implicitDefEqProofs only [go_sem]
  refine zmr (by simp -implicitDefEqProofs only [go_sem]) ?_
  simp -implicitDefEqProofs only [go_sem]
  refine zay (HO) (by simp -implicitDefEqProofs only [go_sem]) ?_
  simp -implicitDefEqProofs only [go_sem]
  refine ⟨by kernel_rfl, fun h => ?_, fun h => ?_⟩
  ·rw [hv, if_neg (by simpa using h)]
  ·have h0 : r = 0 := by simpa using h
   rw [hv, if_pos h0]
   refine callF (HC (hz h0)) (by simp -implicitDefEqProofs only [go_sem]) ?_
   simp -implicitDefEqProofs only [go_sem]
theorem zfb : ∀ a b : Tm, upT a = true -> upT b = true -> FC Tryz.prog 100 [tmD a, tmD b] [iD (zcn a b)] := zbi fun n xs ih b ha hb => zjo (.mk n xs) b ha hb fun x hx y hy => ih x hx y ((zq0 ha).2.2 x hx) hy
theorem zz5 (b : Bool) : FC Tryz.prog 200 [bD b] [iD (if b = true then 1 else 0)] := by
 cases b
 all_goals
  refine zau Tryz.call200 Tryz.func200 rfl (by kernel_rfl) (za6 (by kernel_rfl)) ?_
  simp -implicitDefEqProofs only [go_sem, Tryz.results200]
theorem zzs (x y : Bool) : zj3 (if x = true then 1 else 0) (if y = true then 1 else 0) = zj7 y x := by cases x <;> cases y <;> rfl
theorem zgo (a b : Li) (ha : upT a.atom = true) (hb : upT b.atom = true) : FC Tryz.prog 152 [liD a, liD b] [iD (zrb a b)] := by
 have HT := zfb a.atom b.atom ha hb
 have HF1 := zz5 a.pos
 have HF2 := zz5 b.pos
 have HI := zmc (if a.pos = true then 1 else 0) (if b.pos = true then 1 else 0)
 rw [zzs] at HI
 have HO := zpx (zcn a.atom b.atom) (zj7 b.pos a.pos)
 unfold zrb
 generalize zcn a.atom b.atom = t at HT HO ⊢
 generalize zj7 b.pos a.pos = z at HI HO ⊢
 generalize (if a.pos = true then (1 : Int) else 0) = f1 at HF1 HI
 generalize (if b.pos = true then (1 : Int) else 0) = f2 at HF2 HI
 simp only [liD, zap, tmD, zab a.atom, zab b.atom] at HT ⊢
 refine zau Tryz.call152 Tryz.func152 rfl (by kernel_rfl) (za6 (by kernel_rfl)) ?_
 simp -implicitDefEqProofs only [go_sem, Tryz.results152]
 refine drawn (by kernel_rfl) ?_
 simp -implicitDefEqProofs only [go_sem]
 refine zay (HT) (by simp -implicitDefEqProofs only [go_sem]) ?_
 simp -implicitDefEqProofs only [go_sem]
 refine zay (HF1) (by simp -implicitDefEqProofs only [go_sem]) ?_
 simp -implicitDefEqProofs only [go_sem]
 refine zay (HF2) (by simp -implicitDefEqProofs only [go_sem]) ?_
 simp -implicitDefEqProofs only [go_sem]
 refine zay (HI) (by simp -implicitDefEqProofs only [go_sem]) ?_
 simp -implicitDefEqProofs only [go_sem]
 refine zmr (by simp -implicitDefEqProofs only [go_sem]) ?_
 simp -implicitDefEqProofs only [go_sem]
 refine zay (HO) (by simp -implicitDefEqProofs only [go_sem]) ?_
 simp -implicitDefEqProofs only [go_sem]
 kernel_rfl
theorem zot (a b : Li) : FC Tryz.prog 145 [liD a, liD b] [iD (zrb a b)] := by
 have HT := zjh a.atom b.atom
 have hv : zrb a b = if zcn a.atom b.atom = 0 then zj7 b.pos a.pos else zcn a.atom b.atom := rfl
 rw [hv]
 generalize zcn a.atom b.atom = t at HT ⊢
 simp only [liD, zap, tmD, zab a.atom, zab b.atom] at HT ⊢
 by_cases h : t = 0
 ·rw [if_pos h]
  subst h
  generalize a.pos = x
  generalize b.pos = y
  cases x <;> cases y
  all_goals
   refine zau Tryz.call145 Tryz.func145 rfl (by kernel_rfl) (za6 (by kernel_rfl)) ?_
   simp -implicitDefEqProofs only [go_sem, Tryz.results145]
   refine callF (HT) (by simp -implicitDefEqProofs only [go_sem]) ?_
   simp -implicitDefEqProofs only [go_sem]
   try rfl
 ·have h2 : (t != 0) = true := by simpa using h
  rw [if_neg h]
  refine zau Tryz.call145 Tryz.func145 rfl (by kernel_rfl) (za6 (by kernel_rfl)) ?_
  simp -implicitDefEqProofs only [go_sem, Tryz.results145]
  refine callF (HT) (by simp -implicitDefEqProofs only [go_sem, h2]) ?_
  simp -implicitDefEqProofs only [go_sem, h2]
theorem zhq (l : Li) (hw : l.wt <= 1048576) : FC Tryz.prog 151 [liD l] [bD l.atom.atomOk] := by
 have HA := zmv l.atom (by have := l.wt_eq; omega)
 simp only [liD, zap, tmD, zab l.atom] at HA ⊢
 refine zau Tryz.call151 Tryz.func151 rfl (by kernel_rfl) (za6 (by kernel_rfl)) ?_
 simp -implicitDefEqProofs only [go_sem, Tryz.results151]
 refine callF (HA) (by simp -implicitDefEqProofs only [go_sem]) ?_
 simp -implicitDefEqProofs only [go_sem]
theorem zta {c : Cq} {l : Li} (h : l ∈ c.lits) : l.wt <= c.wt := by
 have h1 := c.wt_eq
 have h2 : zm2 c.lits = c.lits.length + (c.lits.map Li.wt).sum := rfl
 have := zcr Li.wt c.lits l h
 omega
theorem qfn {ls : List Li} {k : Nat} (hk : k < ls.length) (h : ¬ (ls[k].atom.atomOk = true /\ (0 < k -> zrb (ls[k - 1]'(by omega)) ls[k] < 0))) : dec (okc ls) = false := by
 cases hd : dec (okc ls)
 ·rfl
 ·exact absurd (zdd.1 hd k hk) h
def okb (ls : List Li) (n : Nat) : Prop := ∀ k (h : k < ls.length), k < n -> ls[k].atom.atomOk = true /\ (0 < k -> zrb (ls[k - 1]'(by omega)) ls[k] < 0)
theorem zh1 {ls : List Li} {k : Nat} (h : okb ls k) (hk : k < ls.length) (h1 : ls[k].atom.atomOk = true) (h2 : 0 < k -> zrb (ls[k - 1]'(by omega)) ls[k] < 0) : okb ls (k + 1) := fun j hj hl => by
 by_cases e : j = k
 ·subst e; exact ⟨h1, h2⟩
 ·exact h j hj (by omega)
set_option maxHeartbeats 1000000 in
theorem zil (c : Cq) (hw : c.wt <= 1048576) : FC Tryz.prog 92 [cqD c] [bD c.ok] := by
 refine zci (fun hwf => ?_) Tryz.call92
 have hlw := fun l (h : l ∈ c.lits) => Nat.le_trans (zta h) hw
 have hv : c.ok = (decide (c.lits.length <= 8) && dec (okc c.lits)) := rfl
 have hlen : c.lits.length <= 1048576 := by
  have h1 := c.wt_eq
  have h2 : zm2 c.lits = c.lits.length + (c.lits.map Li.wt).sum := rfl
  omega
 rw [hv]
 simp only [cqD, za9] at hwf ⊢
 generalize c.lits = ls at hlw hlen ⊢
 clear hv
 refine zau Tryz.call92 Tryz.func92 rfl (by kernel_rfl) (za6 (by kernel_rfl)) ?_
 simp -implicitDefEqProofs only [go_sem, Tryz.results92]
 refine zaf (fun k : Nat => hd [(1, .one (.bx 1 0)), (6, vT (liS ls)), (7, vI ls.length), (8, vI k)] [(1, [.t (liS ls)])] []) (fun k => k <= ls.length /\ okb ls k) (fun k => ls.length - k) 0 (zaa ?_) ⟨Nat.zero_le _, fun j _ h => by omega⟩ ?_
 ·simp -implicitDefEqProofs only [go_sem]
 ·intro k ⟨hk, hr⟩
  by_cases hlt : k < ls.length
  ·have HV := zhq ls[k] (hlw _ (List.getElem_mem hlt))
   have hno := fun h => qfn (ls := ls) hlt h
   cases ha : ls[k].atom.atomOk
   ·rw [ha] at HV
    rw [hno (fun h => by rw [ha] at h; cases h.1), Bool.and_false]
    simp only [liD, zap ls[k]] at HV
    simp -implicitDefEqProofs only [go_sem, hlt, zad, zap ls[k]]
    refine drawn (by kernel_rfl) ?_
    simp -implicitDefEqProofs only [go_sem, hlt]
    refine zay (HV) (by simp -implicitDefEqProofs only [go_sem]) ?_
    simp -implicitDefEqProofs only [go_sem]
    kernel_rfl
   ·rw [ha] at HV
    by_cases h0 : k = 0
    ·subst h0
     have hlz : ((0 : Int) < (ls.length : Int)) = True := eq_true (by omega)
     simp only [liD, zap ls[0]] at HV
     simp -implicitDefEqProofs only [go_sem, hlt, hlz, zad, zap ls[0]]
     refine drawn (by kernel_rfl) ?_
     simp -implicitDefEqProofs only [go_sem, hlt, hlz]
     refine zay (HV) (by simp -implicitDefEqProofs only [go_sem]) ?_
     simp -implicitDefEqProofs only [go_sem]
     refine ⟨by kernel_rfl, 1, ⟨hlt, zh1 hr hlt ha fun h => by omega⟩, by omega, zaa ?_⟩
     simp -implicitDefEqProofs only [go_sem]
     rfl
    ·obtain ⟨j, rfl⟩ : ∃ j, k = j + 1 := ⟨k - 1, by omega⟩
     have hj : j < ls.length := by omega
     have hkp : ((0 : Int) < ((j + 1 : Nat) : Int)) = True := eq_true (by omega)
     have hw1 : IntKind.i64.wrap (((j + 1 : Nat) : Int) - 1) = (j : Int) := by rw [zbb (by omega) (by omega)]; omega
     have hpa := (hr j hj (by omega)).1
     have HC := zgo ls[j] ls[j + 1] (zqu hpa) (zqu ha)
     have hno2 : 0 <= zrb ls[j] ls[j + 1] -> dec (okc ls) = false := fun h => hno fun h2 => by have := h2.2 (by omega); simp only [Nat.add_sub_cancel] at this; omega
     have hyes : zrb ls[j] ls[j + 1] < 0 -> okb ls (j + 1 + 1) := fun h => zh1 hr hlt ha fun _ => by simpa using h
     generalize zrb ls[j] ls[j + 1] = q at HC hno2 hyes
     simp only [liD, zap ls[j], zap ls[j + 1]] at HV HC
     simp -implicitDefEqProofs only [go_sem, hlt, zad, zap ls[j + 1]]
     refine drawn (by kernel_rfl) ?_
     simp -implicitDefEqProofs only [go_sem, hlt, hkp, hw1, hj, zad, zap ls[j]]
     refine zay (HV) (by simp -implicitDefEqProofs only [go_sem, hkp, hw1, hj, zad, zap ls[j]]) ?_
     simp -implicitDefEqProofs only [go_sem, hkp, hw1, hj, zad, zap ls[j]]
     refine zov (HC) (by simp -implicitDefEqProofs only [go_sem]) ?_
     simp -implicitDefEqProofs only [go_sem]
     refine ⟨by kernel_rfl, fun h => ?_, fun h => ?_⟩
     ·rw [hno2 (by simpa using h), Bool.and_false]
     ·refine ⟨j + 1 + 1, ⟨hlt, hyes (by simpa using h)⟩, by omega, zaa ?_⟩
      simp -implicitDefEqProofs only [go_sem]
      rw [zam (by omega)]
  ·have hd : dec (okc ls) = true := zdd.2 fun j hj => hr j hj (by omega)
   simp -implicitDefEqProofs only [go_sem, hlt, hd]
   simp
   omega
end Go.Proofs.YtmhbmpbgpjljeaaGreat
namespace Go.Proofs.YtmhbmpbgpjljeaaGreat
set_option linter.unusedSimpArgs false
set_option linter.unusedVariables false
set_option linter.unusedSectionVars false
set_option maxRecDepth 4000
open Go.RowKit
set_option maxHeartbeats 1000000 in
theorem qeu (c : Cq) (hw : c.wt <= 1048576) : FC Tryz.prog 84 [cqD c] [bD c.ok] := by
 have hlw := fun l (h : l ∈ c.lits) => Nat.le_trans (zta h) hw
 have hv : c.ok = (decide (c.lits.length <= 8) && dec (okc c.lits)) := rfl
 rw [hv]
 simp only [cqD, za9]
 generalize c.lits = ls at hlw ⊢
 clear hv
 by_cases hl8 : ls.length <= 8
 ·have h8 : ((8 : Int) < (ls.length : Int)) = False := eq_false (by omega)
  rw [decide_eq_true hl8, Bool.true_and]
  refine zau Tryz.call84 Tryz.func84 rfl (by kernel_rfl) (za6 (by kernel_rfl)) ?_
  simp -implicitDefEqProofs only [go_sem, Tryz.results84, h8]
  refine zaf (fun k : Nat => hd [(1, .one (.bx 1 0)), (3, vI k)] [(1, [.t (liS ls)])] []) (fun k => k <= ls.length /\ okb ls k) (fun k => ls.length - k) 0 (zaa ?_) ⟨Nat.zero_le _, fun j _ h => by omega⟩ ?_
  ·simp -implicitDefEqProofs only [go_sem]
  ·intro k ⟨hk, hr⟩
   by_cases hlt : k < ls.length
   ·have HV := qes ls[k].atom (by have h1 := hlw _ (List.getElem_mem hlt); have h2 := ls[k].wt_eq; omega)
    have hno := fun h => qfn (ls := ls) hlt h
    cases ha : ls[k].atom.atomOk
    ·rw [ha] at HV
     rw [hno (fun h => by rw [ha] at h; cases h.1)]
     simp only [tmD, zab ls[k].atom] at HV
     simp -implicitDefEqProofs only [go_sem, hlt]
     refine drawn (by kernel_rfl) ?_
     simp -implicitDefEqProofs only [go_sem, hlt, zad, zap ls[k]]
     refine zay (HV) (by simp -implicitDefEqProofs only [go_sem]) ?_
     simp -implicitDefEqProofs only [go_sem]
     kernel_rfl
    ·rw [ha] at HV
     by_cases h0 : k = 0
     ·subst h0
      have hlz : ((0 : Int) < (ls.length : Int)) = True := eq_true (by omega)
      simp only [tmD, zab ls[0].atom] at HV
      simp -implicitDefEqProofs only [go_sem, hlt, hlz]
      refine drawn (by kernel_rfl) ?_
      simp -implicitDefEqProofs only [go_sem, hlt, hlz, zad, zap ls[0]]
      refine zay (HV) (by simp -implicitDefEqProofs only [go_sem]) ?_
      simp -implicitDefEqProofs only [go_sem]
      refine ⟨by kernel_rfl, 1, ⟨hlt, zh1 hr hlt ha fun h => by omega⟩, by omega, zaa ?_⟩
      simp -implicitDefEqProofs only [go_sem]
      rfl
     ·obtain ⟨j, rfl⟩ : ∃ j, k = j + 1 := ⟨k - 1, by omega⟩
      have hj : j < ls.length := by omega
      have hkp : ((0 : Int) < ((j + 1 : Nat) : Int)) = True := eq_true (by omega)
      have hw1 : IntKind.i64.wrap (((j + 1 : Nat) : Int) - 1) = (j : Int) := by rw [zbb (by omega) (by omega)]; omega
      have hpa := (hr j hj (by omega)).1
      have HC := zot ls[j] ls[j + 1]
      have hno2 : 0 <= zrb ls[j] ls[j + 1] -> dec (okc ls) = false := fun h => hno fun h2 => by have := h2.2 (by omega); simp only [Nat.add_sub_cancel] at this; omega
      have hyes : zrb ls[j] ls[j + 1] < 0 -> okb ls (j + 1 + 1) := fun h => zh1 hr hlt ha fun _ => by simpa using h
      generalize zrb ls[j] ls[j + 1] = q at HC hno2 hyes
      simp only [tmD, zab ls[j + 1].atom] at HV
      simp only [liD, zap ls[j], zap ls[j + 1]] at HC
      simp -implicitDefEqProofs only [go_sem, hlt]
      refine drawn (by kernel_rfl) ?_
      simp -implicitDefEqProofs only [go_sem, hlt, hkp, hw1, hj, zad, zap ls[j], zap ls[j + 1]]
      refine zay (HV) (by simp -implicitDefEqProofs only [go_sem, hlt, hkp, hw1, hj, zad, zap ls[j], zap ls[j + 1]]) ?_
      simp -implicitDefEqProofs only [go_sem, hlt, hkp, hw1, hj, zad, zap ls[j], zap ls[j + 1]]
      refine zov (HC) (by simp -implicitDefEqProofs only [go_sem]) ?_
      simp -implicitDefEqProofs only [go_sem]
      refine ⟨by kernel_rfl, fun h => ?_, fun h => ?_⟩
      ·rw [hno2 (by simpa using h)]
      ·refine ⟨j + 1 + 1, ⟨hlt, hyes (by simpa using h)⟩, by omega, zaa ?_⟩
       simp -implicitDefEqProofs only [go_sem]
       rw [zam (by omega)]
   ·have hd1 : dec (okc ls) = true := zdd.2 fun j hj => hr j hj (by omega)
    simp -implicitDefEqProofs only [go_sem, hlt, hd1]
 ·have h8 : ((8 : Int) < (ls.length : Int)) = True := eq_true (by omega)
  rw [decide_eq_false hl8, Bool.false_and]
  refine zau Tryz.call84 Tryz.func84 rfl (by kernel_rfl) (za6 (by kernel_rfl)) ?_
  simp -implicitDefEqProofs only [go_sem, Tryz.results84, h8]
end Go.Proofs.YtmhbmpbgpjljeaaGreat
namespace Go.Proofs.YtmhbmpbgpjljeaaGreat
set_option linter.unusedSimpArgs false
set_option linter.unusedVariables false
set_option linter.unusedSectionVars false
set_option maxRecDepth 4000
open Go.RowKit Go.Sort Go.Proofs
section
variable {A : Type} {c : A -> List T} {G : A -> Prop} {w w' : World} {b : Nat}
structure El (c : A -> List T) (G : A -> Prop) (w : World) (b : Nat) where
 x : A
 vs : List Value
 fp : List Nat
 own : zas w (c x) vs fp
 nb : b ∉ fp
 good : G x
theorem qfs {cells : Array Value} {sz : Nat} : ∀ {xs : List A} {o : Nat} {fps : List Nat}, zah w cells o sz (xs.map c) fps -> b ∉ fps -> (∀ x ∈ xs, G x) →
  ∃ es : List (El c G w b), es.map El.x = xs /\ (es.map El.fp).flatten = fps /\ (∀ e ∈ es, e.vs.length = sz) /\ ∀ i (h : i < es.length) r u, es[i].vs[r]? = some u -> cells[o + i * sz + r]? = some u
 | [], o, fps, h, _, _ => by
  unfold zah at h
  subst h
  exact ⟨[], rfl, rfl, fun e he => absurd he (by simp), fun i h => absurd h (by simp)⟩
 | x :: xs, o, fps, h, hb, hG => by
  rw [List.map_cons] at h
  unfold zah at h
  obtain ⟨hl, f1, f2, rfl, h1, h2⟩ := h
  obtain ⟨vs, k1, k2, k3⟩ := za2.vals h1
  obtain ⟨es, e1, e2, e3, e4⟩ := qfs h2 (fun hx => hb (by simp [hx])) fun y hy => hG y (by simp [hy])
  refine ⟨⟨x, vs, f1, k3, fun hx => hb (by simp [hx]), hG x (by simp)⟩ :: es, by simp [e1], by simp [e2], fun e he => ?_, fun i h r u hu => ?_⟩
  ·rcases List.mem_cons.1 he with rfl | he
   ·exact k1.trans hl
   ·exact e3 e he
  ·cases i with
   | zero => simpa using k2 r u hu
   | succ i =>
    have := e4 i (by simpa using h) r u (by simpa using hu)
    rwa [show o + (i + 1) * sz + r = o + sz + i * sz + r from by rw [Nat.add_mul]; omega]
theorem zim {cells : Array Value} {sz : Nat} : ∀ {es : List (El c G w b)} {o : Nat}, (∀ e ∈ es, (c e.x).length = sz) -> (∀ i (h : i < es.length) r u, es[i].vs[r]? = some u -> cells[o + i * sz + r]? = some u) -> (∀ k, k ∈ (es.map El.fp).flatten -> w'.heap[k]? = w.heap[k]?) →
  zah w' cells o sz ((es.map El.x).map c) (es.map El.fp).flatten
 | [], o, _, _, _ => by simp only [List.map_nil, List.flatten_nil]; unfold zah; rfl
 | e :: es, o, hl, hc, hk => by
  simp only [List.map_cons, List.flatten_cons] at hk ⊢
  unfold zah
  refine ⟨hl e (by simp), e.fp, _, rfl, za2.of_vals (e.own.keep fun k hk' => hk k (by simp [hk'])) fun j u hu => ?_, zim (fun e' he => hl e' (by simp [he])) (fun i h r u hu => ?_) fun k hk' => hk k (by simp only [List.mem_append]; exact Or.inr hk')⟩
  ·have := hc 0 (by simp) j u hu
   simpa using this
  ·have := hc (i + 1) (by simpa using h) r u (by simpa using hu)
   rwa [show o + (i + 1) * sz + r = o + sz + i * sz + r from by rw [Nat.add_mul]; omega] at this
theorem zao.oneC {t : T} {v : Value} {fp : List Nat} (h : zao w t v fp) : v.oneCell' = true := by
 cases t <;> unfold zao at h
 case int => rw [h.1]; rfl
 case bool => rw [h.1]; rfl
 case str => rw [h.1]; rfl
 case sl => obtain ⟨ao, cap, rfl, _⟩ := h; rfl
 case vs => rw [h.1]; rfl
 case pin u t => exact zao.oneC h.2
 all_goals exact h.elim
theorem zas.oneC : ∀ {cs : List T} {vs : List Value} {fp : List Nat}, zas w cs vs fp -> ∀ v ∈ vs, v.oneCell' = true
 | [], vs, fp, h, v, hv => by rw [h.1] at hv; cases hv
 | t :: cs, vs, fp, h, v, hv => by
  obtain ⟨v1, vs', f1, f2, rfl, rfl, h1, h2⟩ := h
  rcases List.mem_cons.1 hv with rfl | hv
  ·exact h1.oneC
  ·exact zas.oneC h2 v hv
theorem zwc [Inhabited (El c G w b)] {cells : Array Value} {ty : TypeId} {sz : Nat} {es : List (El c G w b)} (hb : w.heap[b]? = some (.cells cells ty (0, 0))) (hl : ∀ e ∈ es, e.vs.length = sz) (hc : ∀ i (h : i < es.length) r u, es[i].vs[r]? = some u -> cells[0 + i * sz + r]? = some u) :
    HoldsK El.vs sz w b 0 es.toArray := by
  intro j hj
  rw [size_flatK] at hj
  have hj : j < es.length * sz := by simpa using hj
  have hs : 0 < sz := by rcases Nat.eq_zero_or_pos sz with h | h
                         · rw [h] at hj; omega
                         · exact h
  have hi : j / sz < es.length := Nat.div_lt_of_lt_mul (by rw [Nat.mul_comm]; exact hj)
  have hr : j % sz < sz := Nat.mod_lt _ hs
  have hd : 0 + j / sz * sz + j % sz = 0 + j := by have := Nat.div_add_mod' j sz; omega
  have he : es[j / sz].vs.length = sz := hl _ (List.getElem_mem hi)
  have h1 := hc (j / sz) hi (j % sz) _ (List.getElem?_eq_getElem (by rw [he]; exact hr))
  rw [hd] at h1
  refine ⟨?_, by simp [World.frozen?, hb]⟩
  rw [get_flatK _ _ _ _ (by simpa using hj)]
  simp only [World.cell?, hb, Option.isSome_none, Bool.false_eq_true, if_false]
  rw [h1]
  simp only [id, Option.some.injEq]
  rw [getElem!_pos es.toArray (j / sz) (by simpa using hi), List.getElem_toArray, getElem!_pos _ _ (by rw [he]; exact hr)]
theorem zn4 {B : Type} [Inhabited B] {enc : B -> List Value} {k n : Nat} {os : Array Obj} {cur : Array Value} {e : TypeId} {fr : Nat × Nat} (d : Array B) (hb : w.heap[b]? = some (.cells cur e fr)) :
  (sortWorldK enc k w b 0 n d os).heap[b]? = some (.cells (putCells id 0 (flatK enc k d) cur) e fr) := by
 have hg : b < w.heap.size := (Array.getElem?_eq_some_iff.1 hb).1
 unfold sortWorldK putRowK
 rw [heap_grow_old _ _ (by simpa [putRow, mapBlock] using hg)]
 simp [putRow, mapBlock, Sort.ahead, Array.getElem?_modify, hb, onCells]
theorem zc2 {B : Type} [Inhabited B] {enc : B -> List Value} {k n : Nat} {os : Array Obj} (d : Array B) : w.grownBy (sortWorldK enc k w b 0 n d os) (some b) := by
 unfold sortWorldK putRowK
 refine ⟨rfl, rfl, rfl, by simp, fun k hk hne => ?_⟩
 rw [heap_grow_old _ _ (by simpa [putRow, mapBlock] using hk)]
 have : b ≠ k := fun e => hne (by rw [e])
 simp [putRow, mapBlock, Sort.ahead, Array.getElem?_modify, this]
theorem zz8 [Inhabited (El c G w b)] {cur : Array Value} {sz : Nat} {es : List (El c G w b)} (hl : ∀ e ∈ es, e.vs.length = sz) (hn : es.length * sz <= cur.size) (i : Nat) (h : i < es.length) (r : Nat) (u : Value) (hu : es[i].vs[r]? = some u) :
  (putCells id 0 (flatK El.vs sz es.toArray) cur)[0 + i * sz + r]? = some u := by
 have he : es[i].vs.length = sz := hl _ (List.getElem_mem h)
 obtain ⟨hr, hu⟩ := List.getElem?_eq_some_iff.1 hu
 have hs : 0 < sz := by omega
 have hb : i * sz + r < es.length * sz := by
  have := Nat.mul_le_mul_right sz (show i + 1 <= es.length from h)
  rw [Nat.add_mul] at this
  omega
 have h0 : 0 + i * sz + r = i * sz + r := by omega
 have hd : (i * sz + r) / sz = i := by rw [Nat.add_comm, Nat.add_mul_div_right _ _ hs, Nat.div_eq_of_lt (by omega), Nat.zero_add]
 have hm : (i * sz + r) % sz = r := by rw [Nat.add_comm, Nat.add_mul_mod_self_right, Nat.mod_eq_of_lt (by omega)]
 rw [h0]
 have hlt : i * sz + r < cur.size := by omega
 simp only [putCells, Array.getElem?_mapIdx, Array.getElem?_eq_getElem hlt, Option.map_some, Option.some.injEq]
 rw [if_pos ⟨by omega, by rw [size_flatK]; simpa using hb⟩, Nat.sub_zero, get_flatK _ _ _ _ (by simpa using hb), hd, hm, getElem!_pos es.toArray i (by simpa using h), List.getElem_toArray, getElem!_pos es[i].vs r hr]
 exact hu
end
end Go.Proofs.YtmhbmpbgpjljeaaGreat
namespace Go.Proofs.YtmhbmpbgpjljeaaGreat
set_option linter.unusedSimpArgs false
set_option linter.unusedVariables false
set_option linter.unusedSectionVars false
set_option maxRecDepth 4000
open Go
def RwD {α : Type} : Result α -> World
 | .ok _ w => w
 | .halt _ w => w
theorem far_dr {P : Program} {w w' : World} {a : Addr} {v : Value} {b : Bool} {l : List Addr} (h : w.farStore P a v b = .ok (w', l)) : w'.drawn = w.drawn := by
 unfold World.farStore at h
 split at h
 ·split at h
  ·rename_i r hr
   cases h
   unfold World.viewStore at hr
   simp only [bind, Except.bind, pure, Except.pure, throw, throwThe, MonadExceptOf.throw] at hr
   repeat' first
    | (cases hr; done)
    | (cases hr; rfl)
    | split at hr
  ·cases h
 ·cases h
theorem zv6 {α : Type} : ∀ (s : Ask α) (w : World), w.drawn <= (w.ask s).2.drawn
 | .done _, w => Nat.le_refl _
 | .ask what range k, w => by
  unfold World.ask
  simp only []
  split
  ·exact zv6 _ w
  ·exact Nat.le_trans (Nat.le_succ _) (zv6 _ { w with drawn := w.drawn + 1 })
theorem sys_dr (w : World) (c : Sys) : w.drawn <= (w.sys c).2.drawn := by
 have h := zv6 (Kernel.perform c w.os) w
 unfold World.sys
 split
 ·exact Nat.le_refl _
 ·rename_i e
  rw [e] at h
  exact h
theorem zzr (w : World) (a : Addr) (n : Nat) : (w.freeze a n).drawn = w.drawn := by unfold World.freeze; split <;> rfl
theorem zs6 {α : Type} (P : Program) (s : Sem α) : ∀ w, w.drawn <= (RwD (s.run P w)).drawn := by
  induction s with
  | pure a => exact fun w => Nat.le_refl _
  | load m a k ih =>
    intro w
    simp only [Sem.run]
    split
    · exact ih _ _
    · split
      · exact ih _ _
      · exact Nat.le_refl _
  | store m a v k ih =>
    intro w
    cases v <;> simp only [Sem.run]
    all_goals first
      | exact Nat.le_refl _
      | (split
         · split
           · exact Nat.le_refl _
           · exact Nat.le_trans (Nat.le_of_eq rfl) (ih (w.setCell a _))
         · split
           · rename_i w' l h
             have := ih w'
             rw [far_dr h] at this
             exact this
           · exact Nat.le_refl _)
  | new o k ih => exact fun w => ih _ { w with heap := w.heap.push o }
  | shape r k ih => exact fun w => ih _ w
  | freeze a n k ih => exact fun w => by have := ih (w.freeze a n); rw [zzr] at this; exact this
  | frozen a k ih => exact fun w => ih _ w
  | getObj r k ih =>
    intro w
    simp only [Sem.run]
    split
    · exact Nat.le_refl _
    · exact ih _ _
    · exact Nat.le_refl _
  | setObj r o k ih =>
    intro w
    simp only [Sem.run]
    split
    · exact Nat.le_refl _
    · exact ih { w with heap := w.heap.setIfInBounds r o }
    · exact Nat.le_refl _
  | choose q k ih =>
    intro w
    simp only [Sem.run]
    split
    · exact ih _ w
    · exact Nat.le_trans (Nat.le_succ _) (ih _ { w with drawn := w.drawn + 1 })
  | sys c k ih => exact fun w => Nat.le_trans (sys_dr w c) (ih _ _)
  | program k ih => exact fun w => ih _ w
  | mark m k ih => exact fun w => ih w
  | halt h => exact fun w => Nat.le_refl _
theorem zbh {α : Type} {P : Program} {s : Sem α} {w w' : World} {a : α} (h : s.run P w = .ok a w') : w.drawn <= w'.drawn := by
 have := zs6 P s w
 rw [h] at this
 exact this
theorem zgi {α : Type} {P : Program} {s : Sem α} {w w' : World} {x : Halt} (h : s.run P w = .halt x w') : w.drawn <= w'.drawn := by
 have := zs6 P s w
 rw [h] at this
 exact this
def GdD (w : World) : Go.GStep -> Prop
 | .go _ w' _ => w.drawn <= w'.drawn
 | .comm _ _ _ _ w' _ => w.drawn <= w'.drawn
 | .spawn _ _ w' _ => w.drawn <= w'.drawn
 | .count _ w' _ => w.drawn <= w'.drawn
 | .timer _ _ w' _ => w.drawn <= w'.drawn
 | .alone _ _ w' _ => w.drawn <= w'.drawn
 | .newcoro _ _ _ w' _ => w.drawn <= w'.drawn
 | .coroswitch _ _ _ w' _ => w.drawn <= w'.drawn
 | .collect _ w' _ => w.drawn <= w'.drawn
 | .watch _ w' _ => w.drawn <= w'.drawn
 | .ended _ _ _ => True
theorem GdD.after {w : World} {es : Array Event} {s : Go.GStep} (h : GdD w s) : GdD w (Go.GStep.after es s) := by
 cases s <;> exact h
theorem GdD.mono {w w1 : World} {s : Go.GStep} (h1 : w.drawn <= w1.drawn) (h : GdD w1 s) : GdD w s := by
 cases s <;> first | exact Nat.le_trans h1 h | trivial
theorem zsi (fr : Frame) (a : List ByteArray) (m : String) (b : Bool) (w : World) : GdD w (dieOf fr a m b w) := Nat.le_refl _
theorem zdz (fr : Frame) (m : String) (w : World) : GdD w (endThrow fr m w) := zsi _ _ _ _ _
theorem zff (P : Program) (fr : Frame) (v : Value) (w : World) : GdD w (endPrinting P fr v w) := by
 unfold endPrinting
 simp only []
 split
 ·exact zdz _ _ _
 ·trivial
theorem zvk (w w1 : World) (fd : Nat) (t : ByteArray) (o : Outcome) : GdD w (endWith w1 fd t o) := by
 unfold endWith
 simp only []
 split
 ·split <;> trivial
 ·trivial
 ·trivial
theorem zjk (P : Program) (fr : Frame) (cs : List Frame) (d : Option Dying) (m : String) (w : World) : GdD w (endFatal P fr cs d m w) := by
 unfold endFatal
 simp only []
 split
 ·rename_i h
  exact (zsi _ _ _ _ _).mono (zbh h)
 ·trivial
 ·trivial
theorem zvh (P : Program) (fr : Frame) (d : Dying) (f : Fatal) (w : World) : GdD w (writeOn P fr d f w) := by
 unfold writeOn
 simp only [Sem.runT_eq]
 split
 ·trivial
 ·split
  ·rename_i h
   simp only [Prod.mk.injEq] at h
   exact zbh h.1
  ·rename_i h
   simp only [Prod.mk.injEq] at h
   exact zgi h.1
  ·trivial
  ·trivial
theorem die_gd (P : Program) (fr : Frame) (d : Dying) (w : World) : GdD w (die P fr d w) := by
 unfold die
 simp only [Sem.runT_eq]
 split
 ·exact zvh _ _ _ _ _
 ·split
  ·split
   ·exact Nat.le_refl _
   ·exact zvk _ _ _ _ _
  ·split
   ·exact Nat.le_refl _
   ·split
    ·rename_i h
     exact zbh h
    ·trivial
   ·refine GdD.after ?_
    split
    ·rename_i h; exact zbh h
    ·rename_i h; exact zbh h
    ·trivial
    ·rename_i h; exact (zff _ _ _ _).mono (zgi h)
    ·trivial
   ·trivial
theorem zd0 (P : Program) (b : Bool) (fr : Frame) (cs : List Frame) (d : Option Dying) (v : Value) (w : World) : GdD w (doReturn P b fr cs d v w) := by
 unfold doReturn
 repeat' first
  | exact Nat.le_refl _
  | trivial
  | split
theorem qf3 {w : World} {c : Prop} [Decidable c] {a b : Go.GStep} (ha : GdD w a) (hb : GdD w b) : GdD w (if c then a else b) := by
 split
 ·exact ha
 ·exact hb
theorem zij (P : Program) (fr : Frame) (cs : List Frame) (dy : Option Dying) (d : Deferred) (w : World) : GdD w (callDeferred P fr cs dy d w) := by
 unfold callDeferred
 simp only [Sem.runT_eq]
 refine qf3 trivial ?_
 ·refine GdD.after ?_
  have hd := zs6 P (invoke d.target d.args) w
  generalize (invoke d.target d.args).run P w = r at hd
  rcases r with ⟨n, w'⟩ | ⟨x, w'⟩
  ·have hd : w.drawn <= w'.drawn := hd
   cases n <;> (try simp only [])
   all_goals
    repeat' first
     | exact hd
     | trivial
     | (rename_i h; cases h; done)
     | (rename_i h; cases h; exact hd)
     | split
  ·have hd : w.drawn <= w'.drawn := hd
   cases x <;> (try simp only [])
   all_goals
    repeat' first
     | exact hd
     | trivial
     | exact (zjk _ _ _ _ _ _).mono hd
     | exact (zdz _ _ _).mono hd
     | (rename_i h; cases h; done)
     | (rename_i h; cases h; exact hd)
     | split
theorem zxc (P : Program) (b : Bool) (fr : Frame) (cs : List Frame) (dy : Option Dying) (w : World) : GdD w (unwind P b fr cs dy w) := by
 unfold unwind
 simp only [Sem.runT_eq]
 repeat' first
  | exact zij _ _ _ _ _ _
  | exact zd0 _ _ _ _ _ _ _
  | exact zff _ _ _ _
  | exact Nat.le_refl _
  | trivial
  | refine GdD.after ?_
  | (rename_i h; exact zbh h)
  | (rename_i h; exact (zd0 _ _ _ _ _ _ _).mono (zbh h))
  | split
theorem zt3 (P : Program) (fr : Frame) (cs : List Frame) (dy : Option Dying) (g : Nat) (w : World) : GdD w (early P fr cs dy g w) := by
 have hn : ∀ w1 : World, w.drawn <= w1.drawn -> GdD w (match w1.heap[g]? with | some (.pending c elem) => .go { frame := fr, callers := cs, status := .running, dying := dy } { w1 with heap := w1.heap.setIfInBounds g (.cells c elem) } | _ => .ended (.stuck "early: the variable does not wait" (fr.pos P)) w1) := fun w1 h1 => by
  split
  ·exact h1
  ·trivial
 unfold early
 simp only []
 repeat' first
  | exact hn _ (Nat.le_refl _)
  | exact Nat.le_refl _
  | trivial
  | (rename_i h; exact hn _ (zbh h))
  | (rename_i h; exact zbh h)
  | split
theorem zmu (P : Program) (l : Bool) (fr : Frame) (cs : List Frame) (dy : Option Dying) (s : Sem Next) (w : World) : GdD w (stepG.apply P l fr cs dy s w) := by
 have hd := zs6 P s w
 unfold stepG.apply
 have e : (if l = true then s.runT P w #[] else (s.run P w, #[])).1 = s.run P w := by cases l <;> simp
 generalize (if l = true then s.runT P w #[] else (s.run P w, #[])) = q at e
 obtain ⟨r, es⟩ := q
 simp only at e
 subst e
 simp only []
 refine GdD.after ?_
 generalize s.run P w = r at hd
 rcases r with ⟨n, w'⟩ | ⟨x, w'⟩
 ·have hd : w.drawn <= w'.drawn := hd
  cases n <;> (try simp only [])
  all_goals
   repeat' first
    | exact hd
    | trivial
    | exact (zdz _ _ _).mono hd
    | (rename_i h; cases h; done)
    | (rename_i h; cases h; exact hd)
    | split
 ·have hd : w.drawn <= w'.drawn := hd
  cases x <;> (try simp only [])
  all_goals
   repeat' first
    | exact hd
    | trivial
    | exact (zjk _ _ _ _ _ _).mono hd
    | exact (zdz _ _ _).mono hd
    | exact (zt3 _ _ _ _ _ _).mono hd
    | (rename_i h; cases h; done)
    | (rename_i h; cases h; exact hd)
    | (rename_i h; cases h; exact (zt3 _ _ _ _ _ _).mono hd)
    | split
theorem qin (P : Program) (l : Bool) (fr : Frame) (cs : List Frame) (dy : Option Dying) (w : World) : GdD w (stepG.oper P l fr cs dy w) := by
 unfold stepG.oper
 split
 ·trivial
 ·split <;> exact zmu _ _ _ _ _ _ _
theorem zq1 {α : Type} {w : World} (o : Option α) (a : Go.GStep) (f : α -> Go.GStep) (h0 : GdD w a) (h : ∀ x, GdD w (f x)) : GdD w (o.elim a f) := by
 cases o
 ·exact h0
 ·exact h _
theorem qix (P : Program) (b l : Bool) (fr : Frame) (cs : List Frame) (dy : Option Dying) (w : World) : GdD w (stepG.exec P b l fr cs dy w) := by
 have hl : ∀ j : Option Code, GdD w (match fr.roundOf with
   | none => if (j matches none | some .ret) then .go { frame := { fr with mode := .returning }, callers := cs, status := .running, dying := dy } w else .ended (.stuck "exit, goto: no such block or label" (fr.pos P)) w
   | some lo => Go.GStep.after (seen P fr.fn ((Instr.endRound lo j).runT P w #[]).2) (match ((Instr.endRound lo j).runT P w #[]).1 with
    | .ok v w => doReturn P b fr cs dy v w
    | .halt _ w => .ended (.stuck "range over a function: no such loop" (fr.pos P)) w)) := fun j => by
  simp only [Sem.runT_eq]
  split
  ·refine qf3 (Nat.le_refl _) trivial
  ·refine GdD.after ?_
   split
   ·rename_i h
    exact (zd0 _ _ _ _ _ _ _).mono (zbh h)
   ·trivial
 unfold stepG.exec
 simp only []
 repeat' first
  | exact hl _
  | exact Nat.le_refl _
  | trivial
  | exact zmu _ _ _ _ _ _ _
  | exact qin _ _ _ _ _ _
  | refine zq1 _ _ _ (hl _) fun _ => ?_
  | refine zq1 _ _ _ trivial fun _ => ?_
  | refine zq1 _ _ _ ?_ fun _ => ?_
  | (rename_i h; simp only [Sem.runT_eq] at h; exact zbh h)
  | (rename_i h; exact zbh h)
  | (rename_i h; simp only [Sem.runT_eq] at h; exact zgi h)
  | (rename_i h; simp only [Sem.runT_eq] at h; exact (zmu _ _ _ _ _ _ _).mono (zbh h))
  | (rename_i h; simp only [Sem.runT_eq] at h; exact (zd0 _ _ _ _ _ _ _).mono (zbh h))
  | refine GdD.after ?_
  | split
theorem qbk (P : Program) (b l : Bool) (g : Goroutine) (w : World) : GdD w (stepG P b g w l) := by
 obtain ⟨fr, cs, status, dying, offers⟩ := g
 simp only [stepG]
 split
 ·exact die_gd _ _ _ _
 ·exact qix _ _ _ _ _ _ _
 ·exact zxc _ _ _ _ _ _
theorem zvu {rest : Rest} {cs : Array CommCase} {w w1 : World} (h : waitingAt rest cs w = some w1) : w.drawn <= w1.drawn := by
 unfold waitingAt at h
 split at h
 ·split at h
  ·cases h; exact Nat.le_refl _
  ·cases h
 ·cases h; exact Nat.le_refl _
theorem qg7 (p : Program) (rest : Rest) (gs : Array Goroutine) (i : Nat) (g : Goroutine) (cases : Array CommCase) (blocking : Bool)
  (shape : CommShape) (w : World) (m' : Machine) (h : (communicate p rest gs i g cases blocking shape w).1 = .next m') : w.drawn <= m'.world.drawn := by
 unfold communicate at h
 simp only [] at h
 repeat' first
  | (simp at h; done)
  | (simp only [Stepped.next.injEq] at h; subst h; first | exact Nat.le_refl _ | exact zvu ‹_› | (have hx := zbh ‹Sem.run p _ w = Result.ok _ _›; exact hx) | (have hx := zbh ‹Sem.run p _ w = Result.ok _ _›; have hy := zgi ‹Sem.run p _ _ = Result.halt _ _›; exact Nat.le_trans hx hy) | (have hx := zbh ‹Sem.run p _ w = Result.ok _ _›; have hy := zbh ‹Sem.run p _ _ = Result.ok _ _›; exact Nat.le_trans hx hy))
  | split at h
theorem zyy (p : Program) (gs : Array Goroutine) (rest : Rest) (w : World) (m' : Machine)
  (h : look p gs rest w = .next m') : w.drawn <= m'.world.drawn := by
 unfold look at h
 simp only [] at h
 repeat' first
  | (simp at h; done)
  | (simp only [Stepped.next.injEq] at h; subst h; have hx := zbh ‹Sem.run p _ w = Result.ok _ _›; exact hx)
  | split at h
theorem qdt (w : World) (c : Nat) : (drain w c).2.drawn = w.drawn := by
 unfold drain
 split <;> rfl
theorem zoz (m : Machine) (k : Nat) (t : Timer) (a b : Nat) : (retime m k t a b).2.world.drawn = m.world.drawn := by
 unfold retime
 simp only []
 split
 ·exact qdt _ _
 ·rfl
theorem zsb {m m' : Machine} {var : Addr} {f : Nat -> Timer -> Value × Machine} {v : Value} (hf : ∀ k t, (f k t).2.world.drawn = m.world.drawn) (h : timerOp.named m var f = .ok (v, m')) : m.world.drawn <= m'.world.drawn := by
 unfold timerOp.named at h
 split at h
 ·rename_i k _
  have := hf k (m.rest.timers.getD k default)
  simp only [Except.ok.injEq] at h
  rw [h] at this
  exact Nat.le_of_eq this.symm
 ·cases h
theorem qe1 {m m' : Machine} {op : TimerOp} {v : Value} (h : timerOp m op = .ok (v, m')) : m.world.drawn <= m'.world.drawn := by
 unfold timerOp at h
 split at h
 ·split at h
  ·simp only [Except.ok.injEq, Prod.mk.injEq] at h
   obtain ⟨_, rfl⟩ := h
   exact Nat.le_refl _
  ·split at h
   ·split at h
    ·cases h
    ·simp only [Except.ok.injEq, Prod.mk.injEq] at h
     obtain ⟨_, rfl⟩ := h
     exact Nat.le_refl _
   ·cases h
 ·exact zsb (fun k t => zoz _ _ _ _ _) h
 ·split at h
  ·rename_i m1 h1
   have h2 : m1.world.drawn = m.world.drawn := by
    unfold timerOp.opened at h1
    split at h1
    ·split at h1
     ·cases h1; rfl
     ·cases h1
    ·cases h1; rfl
   exact zsb (fun k t => (zoz _ _ _ _ _).trans h2) h
  ·cases h
 ·simp only [Except.ok.injEq, Prod.mk.injEq] at h
  obtain ⟨_, rfl⟩ := h
  exact Nat.le_refl _
theorem qbq {fr : Frame} {m : String} {w w' : World} {g : Goroutine} {es : Array Event} (h : endThrow fr m w = .go g w' es) : w.drawn <= w'.drawn := by
 unfold endThrow dieOf at h
 cases h
 exact Nat.le_refl _
theorem qgk (p : Program) (m m' : Machine) (i : Nat) (b : Bool) (h : (runT p m i b).1 = .next m') : m.world.drawn <= m'.world.drawn := by
 simp only [runT] at h
 revert h
 generalize m.gs.swapAt! _ _ = gg
 have hs := qbk p (i == 0) b gg.1 m.world
 generalize stepG p _ gg.1 m.world b = s at hs ⊢
 intro h
 cases s <;> simp only [] at h
 all_goals first
  | (simp at h; done)
  | (have := qg7 _ _ _ _ _ _ _ _ _ _ h; exact Nat.le_trans hs this)
  | (have := zyy _ _ _ _ _ h; exact Nat.le_trans hs this)
  | (simp only [Stepped.next.injEq] at h; subst h; exact hs)
  | (repeat' first
    | (simp at h; done)
    | (simp only [Stepped.next.injEq] at h; subst h; exact hs)
    | (simp only [Stepped.next.injEq] at h; subst h; have := qe1 ‹_›; exact Nat.le_trans hs this)
    | (simp only [Stepped.next.injEq] at h; subst h; have hx := qbq ‹endThrow _ _ _ = _›; exact Nat.le_trans hs hx)
    | split at h)
theorem qec (p : Program) (m m' : Machine) (k : Nat) (h : serve p m k = .next m') : m.world.drawn <= m'.world.drawn := by
 unfold serve at h
 simp only [] at h
 repeat' first
  | (simp at h; done)
  | (simp only [Stepped.next.injEq] at h; subst h; exact Nat.le_refl _)
  | split at h
def MvD (w : World) : Move -> Prop
 | .goroutine m _ => w.drawn <= m.world.drawn
 | .machine (.next m) _ => w.drawn <= m.world.drawn
 | .machine (.ended _ _) _ => True
theorem MvD.mono {w w1 : World} {s : Move} (h1 : w.drawn <= w1.drawn) (h : MvD w1 s) : MvD w s := by
 rcases s with ⟨m, i⟩ | ⟨m | ⟨o, w⟩, ops⟩
 ·exact Nat.le_trans h1 h
 ·exact Nat.le_trans h1 h
 ·trivial
theorem qe5 (p : Program) (m : Machine) (k : Nat) (ops : Array MemOp) : MvD m.world (.machine (serve p m k) ops) := by
 cases h : serve p m k with
 | next m' => exact qec p m m' k h
 | ended o w => trivial
theorem adv_ok {α : Type} {P : Program} {s : Sem α} {m : Machine} {n : Nat} {w' : World} {a : α} (h : s.run P (m.advanceTo n).world = .ok a w') : m.world.drawn <= w'.drawn := by
 have hx := zbh h
 exact hx
theorem zmk (p : Program) (m : Machine) : MvD m.world (askOn p m) := by
 unfold askOn
 simp only []
 repeat' first
  | exact Nat.le_refl _
  | trivial
  | (rename_i h; refine MvD.mono (zbh h) ?_; clear h)
  | (rename_i h; refine MvD.mono (adv_ok h) ?_; clear h)
  | exact qe5 _ _ _ _
  | split
theorem ask_mv (p : Program) (m : Machine) : MvD m.world (ask p m) := by
 unfold ask
 split
 ·split
  ·trivial
  ·rename_i w h
   refine MvD.mono (zbh h) ?_
   cases hl : look p m.gs m.rest w with
   | next m₂ => exact MvD.mono (zyy _ _ _ _ _ hl) (zmk p m₂)
   | ended o w => trivial
  ·rename_i h
   exact MvD.mono (zbh h) (zmk p _)
 ·exact zmk p m
theorem qhj (p : Program) (m : Machine) : MvD m.world (move p m) := by
 unfold move
 repeat' first
  | exact Nat.le_refl _
  | trivial
  | exact ask_mv p _
  | split
theorem qi4 {p : Program} {m m' : Machine} (h : step p m = .next m') : m.world.drawn <= m'.world.drawn := by
 have hm := qhj p m
 unfold step stepT at h
 generalize move p m = v at h hm
 rcases v with ⟨m1, i⟩ | ⟨s, ops⟩
 ·exact Nat.le_trans hm (qgk p m1 m' i true h)
 ·simp only [] at h
  subst h
  exact hm
theorem qco {p : Program} {m m' : Machine} (h : Steps p m m') : m.world.drawn <= m'.world.drawn := by
 obtain ⟨n, hn⟩ := h
 induction n generalizing m with
 | zero => cases hn; exact Nat.le_refl _
 | succ n ih =>
  rw [runN] at hn
  split at hn
  ·rename_i m1 h1
   exact Nat.le_trans (qi4 h1) (ih hn)
  ·rename_i h1
   exact absurd hn (h1 _)
theorem qcy {P : Program} {f : FuncId} {args : Array Value} {w : World} {R : Ending -> World -> Prop} (h : Calls P f args w R) : Calls P f args w fun e w' => R e w' /\ ((∃ v, e = .returned v) -> w.drawn <= w'.drawn) := fun cs => by
 obtain ⟨e, w', fr, h1, h2, h3⟩ := h cs
 refine ⟨e, w', fr, ⟨h1, ?_⟩, h2, h3⟩
 rintro ⟨v, rfl⟩
 exact qco h2
end Go.Proofs.YtmhbmpbgpjljeaaGreat
namespace Go.Proofs.YtmhbmpbgpjljeaaGreat
set_option linter.unusedSimpArgs false
set_option linter.unusedVariables false
set_option linter.unusedSectionVars false
set_option maxRecDepth 4000
open Go.RowKit Go.Sort Go.Proofs Go.Shelf
theorem zzh {B : Type} {f : B -> List Nat} : ∀ {l l' : List B}, l.Perm l' -> (l.map f).flatten.Perm (l'.map f).flatten := fun h => by
 induction h with
 | nil => exact .refl _
 | cons x _ ih => simp only [List.map_cons, List.flatten_cons]; exact ih.append_left _
 | swap x y l =>
  simp only [List.map_cons, List.flatten_cons, <- List.append_assoc]
  exact (List.perm_append_comm).append_right _
 | trans _ _ i1 i2 => exact i1.trans i2
theorem zw2 {B A : Type} [Inhabited B] {p : B -> A} {cf : A -> A -> Int} (hO : SWO (ltOf cf)) (hT : ∀ x y, ltOf cf x y = false -> ltOf cf y x = false -> x = y) {es : List B} {ys : List A} {d' : Array B} (hp : PermIn 0 es.toArray.size es.toArray d') (hs : SortedIn (ltOf fun x y => cf (p x) (p y)) 0 es.toArray.size d') (hxy : (es.map p).Perm ys) (hy : ys.Pairwise fun a b => ltOf cf b a = false) :
  d'.size = es.length /\ d'.toList.Perm es /\ d'.toList.map p = ys := by
 obtain ⟨p1, _, p3⟩ := hp
 have hsz : d'.size = es.length := by rw [p1]; simp
 have e1 : (d'.extract 0 es.toArray.size).toList = d'.toList := by simp [<- p1]
 have e2 : (es.toArray.extract 0 es.toArray.size).toList = es := by simp
 rw [e1, e2] at p3
 refine ⟨hsz, p3, ?_⟩
 have hpy : (d'.toList.map p).Perm ys := (p3.map p).trans hxy
 refine List.Perm.eq_of_pairwise (le := fun a b => ltOf cf b a = false) (fun a b _ _ h1 h2 => hT a b h2 h1) ?_ ?_ hpy
 ·refine List.pairwise_iff_getElem.2 fun i j hi hj hij => ?_
  have hj' : j < d'.size := by simpa using hj
  have hi' : i < d'.size := by simpa using hi
  have h := hs i j (Nat.zero_le _) hij (by rw [<- p1]; exact hj')
  rw [getElem!_pos d' j hj', getElem!_pos d' i hi'] at h
  rw [List.getElem_map, List.getElem_map, Array.getElem_toList, Array.getElem_toList]
  exact h
 ·exact hy
theorem qd3 {W w' : World} (h : Below W.heap.size W w') (hd : W.drawn <= w'.drawn) : ∃ q os', w' = grow (W.drewN q) os' := by
 refine ⟨w'.drawn - W.drawn, w'.heap.extract W.heap.size w'.heap.size, ?_⟩
 have hh : w'.heap = W.heap ++ w'.heap.extract W.heap.size w'.heap.size := by
  apply Array.ext_getElem?
  intro i
  by_cases hi : i < W.heap.size
  ·rw [Array.getElem?_append_left hi, h.block i hi]
  ·rw [Array.getElem?_append_right (by omega), Array.getElem?_extract]
   by_cases h2 : i < w'.heap.size
   ·rw [if_pos (by omega), show W.heap.size + (i - W.heap.size) = i by omega]
   ·rw [if_neg (by omega), Array.getElem?_eq_none (by omega)]
 obtain ⟨hp', tp', dr', os', ou'⟩ := w'
 have h1 := h.os
 have h2 := h.tape
 have h3 := h.output
 simp only at h1 h2 h3 hh hd
 unfold grow World.drewN
 subst h1 h2 h3
 simp only [World.mk.injEq, and_true, true_and]
 exact ⟨hh, by omega⟩
theorem qb6 {P : Program} {g : FuncId} {ds : List D} {n : Int} (H : FC P g ds [.one (.int .i64 n)]) {W : World} {vs : List Value} (hr : zaz W (fun b => b < W.heap.size) ds vs) : Calls P g ⟨vs⟩ W fun e w' => e = .returned (.int .i64 n) /\ ∃ q os', w' = grow (W.drewN q) os' := by
 refine (qcy (H.use hr)).mono ?_
 rintro e w' ⟨⟨us, fp, he, ho, _, _, bel⟩, hd⟩
 obtain ⟨u, us', f1, f2, rfl, _, hu, hus⟩ := ho
 obtain ⟨rfl, _⟩ := hus
 have hu : zao w' (.int .i64 n) u f1 := hu
 unfold zao at hu
 obtain ⟨rfl, _⟩ := hu
 exact ⟨he, qd3 bel (hd ⟨_, he⟩)⟩
set_option maxHeartbeats 1000000 in
theorem qje {P : Program} {ρ : Ren} (L : SlLaysF0.n6 P ρ) {A : Type} {c : A -> List T} {G : A -> Prop} {cf : A -> A -> Int} {sz : Nat} {g : FuncId} (hf : za1 P (ρ.f 6)) (aE : ∀ w, (isAgg (ρ.t 24)).run P w = .ok true w) (zE : ∀ w, (Go.sizeOf (ρ.t 24)).run P w = .ok sz w)
  (eg : za1 P g) (hc : ∀ x, (c x).length = sz) (hO : SWO (ltOf cf)) (hT : ∀ x y, ltOf cf x y = false -> ltOf cf y x = false -> x = y)
  (hcmp : ∀ x y : A, G x -> G y -> FC P g [.agg (c x), .agg (c y)] [.one (.int .i64 (cf x y))])
  (xs ys : List A) (hp : xs.Perm ys) (hr : ys.Pairwise fun a b => ltOf cf b a = false) (hg : ∀ x ∈ xs, G x) (hl : xs.length < 4611686018427387904) : IC P (ρ.f 6) [] (.one (.sl sz (xs.map c))) [.one (.fn g [])] (.one (.sl sz (ys.map c))) [] := by
 refine ⟨hf, fun w us1 v us2 fp tp h1 hgd h2 hn => ?_⟩
 rw [show us1 = [] from h1]
 obtain ⟨u, us, e0, h2, h3⟩ := h2
 rw [show us = [] from h3] at e0
 subst e0
 have h2 : zai w _ (T.fn g []) u := h2
 unfold zai at h2
 obtain ⟨cs, rfl, h4⟩ := h2
 rw [show cs = [] by unfold zac at h4; exact h4]
 have hlen : ys.length = xs.length := hp.length_eq.symm
 obtain ⟨hgd, htp⟩ := hgd
 unfold zao at hgd
 obtain ⟨ao, cap, rfl, q1, q2, q3⟩ := hgd
 rw [List.length_map] at q1 ⊢
 rcases q3 with ⟨rfl, rfl, q3, rfl⟩ | ⟨b, cells, ty, fps, rfl, rfl, q3, q4, q5⟩
 ·have hs : xs = [] := List.map_eq_nil_iff.1 q3
  subst hs
  have hy : ys = [] := List.length_eq_zero_iff.1 hlen
  subst hy
  refine (AnyF.slices_SortFunc_none L none 0 _ w).mono ?_
  rintro e w' ⟨rfl, rfl⟩
  refine ⟨[], [], [], rfl, ⟨_, [], [], [], [], [], rfl, rfl, rfl, ⟨?_, rfl⟩, rfl, rfl, rfl⟩, List.nodup_nil, by simp, Bk.refl _ _⟩
  unfold zao
  exact ⟨none, 0, by simp, by simp, by simp, Or.inl ⟨rfl, rfl, by simp, rfl⟩⟩
 ·by_cases h0 : xs = []
  ·subst h0
   have hy : ys = [] := List.length_eq_zero_iff.1 hlen
   subst hy
   refine (AnyF.slices_SortFunc_none L (some ⟨b, 0, none⟩) cap _ w).mono ?_
   rintro e w' ⟨rfl, rfl⟩
   refine ⟨[], b :: fps, tp, rfl, ⟨_, [], b :: fps, [], tp, [], rfl, by simp, by simp, ⟨?_, htp⟩, rfl, rfl, rfl⟩, hn, fun x hx => Or.inl hx, Bk.refl _ _⟩
   unfold zao
   exact ⟨_, cap, rfl, q1, q2, Or.inr ⟨b, cells, ty, fps, rfl, rfl, q3, q4, q5⟩⟩
  have hnb : b ∉ fps := (List.nodup_cons.1 hn).1
  obtain ⟨es, e1, e2, e3, e4⟩ := qfs (G := G) (b := b) q5 hnb hg
  have hne : es ≠ [] := fun e => h0 (by rw [<- e1, e]; rfl)
  letI : Inhabited (El c G w b) := ⟨es.head hne⟩
  have hel : es.length = xs.length := by rw [<- e1, List.length_map]
  have hH := zwc q3 e3 e4
  have hsz2 : es.toArray.size = xs.length := by simpa using hel
  have hvl : ∀ x : El c G w b, x.vs.length = sz := fun x => x.own.len.trans (hc _)
  have hblk : b < w.heap.size := (Array.getElem?_eq_some_iff.1 q3).1
  have hkeep : ∀ (W : World), w.grownBy W (some b) -> ∀ x : El c G w b, zas W (c x.x) x.vs x.fp := fun W hW x => x.own.keep fun k hk => hW.block k (x.own.lt k hk) fun e => x.nb (by cases e; exact hk)
  have hcl : CmpLays P g #[] El.vs sz (fun x y : El c G w b => cf x.x y.x) b 0 es.toArray.size w := fun m os dk _ x y => by
   have h1 := hkeep _ (zc2 (w := w) (b := b) (enc := El.vs) (k := sz) (n := m) (os := os) dk) x
   have h2 := hkeep _ (zc2 (w := w) (b := b) (enc := El.vs) (k := sz) (n := m) (os := os) dk) y
   exact (qb6 (hcmp x.x y.x x.good y.good) (vs := [.agg ⟨x.vs⟩, .agg ⟨y.vs⟩]) ⟨_, _, rfl, ⟨_, rfl, h1.rep h1.lt⟩, _, _, rfl, ⟨_, rfl, h2.rep h2.lt⟩, rfl⟩)
  have hO2 : SWO (ltOf fun x y : El c G w b => cf x.x y.x) := ⟨fun x => hO.irrefl x.x, fun x y z => hO.trans x.x y.x z.x, fun x y z => hO.ntrans x.x y.x z.x⟩
  have hC := AnyQ.slices_SortFunc L sz aE zE El.vs hvl (fun x v hv => x.own.oneC v hv) (fun x y : El c G w b => cf x.x y.x) hO2 g #[] b 0 cap es.toArray w eg hcl hH hblk (by rw [hsz2]; exact hl)
  rw [hsz2] at hC
  refine Calls.mono (show Calls P (ρ.f 6) _ w _ from hC) ?_
  rintro e w' ⟨rfl, d', n, os, hp', hs', rfl⟩
  rw [<- hsz2] at hp' hs'
  obtain ⟨z1, z2, z3⟩ := zw2 (p := El.x) hO hT hp' hs' (by rw [e1]; exact hp) hr
  have hgr := zc2 (w := w) (b := b) (enc := El.vs) (k := sz) (n := n) (os := os) d'
  have hpm := zzh (f := El.fp) z2
  rw [e2] at hpm
  refine ⟨[], b :: (d'.toList.map El.fp).flatten, zgx (.sl sz (ys.map c)) (b :: (d'.toList.map El.fp).flatten), rfl, ⟨_, [], b :: (d'.toList.map El.fp).flatten, [], zgx (.sl sz (ys.map c)) (b :: (d'.toList.map El.fp).flatten), [], rfl, by simp, by simp, ⟨?_, rfl⟩, rfl, rfl, rfl⟩, ?_, fun x hx => Or.inl ?_, ⟨hgr.os, hgr.tape, hgr.output, hgr.size, fun k hk => hgr.block k hk.1 fun e => hk.2 (by cases e; simp)⟩⟩
  ·unfold zao
   refine ⟨_, cap, by rw [List.length_map, hlen], by rw [List.length_map, hlen]; exact q1, q2, Or.inr ⟨b, _, ty, (d'.toList.map El.fp).flatten, rfl, rfl, zn4 d' q3, by simp [putCells, q4], ?_⟩⟩
   have hcs : es.length * sz <= cells.size := by
    rw [q4, hel]
    exact Nat.mul_le_mul_right sz q1
   have := zim (w' := sortWorldK El.vs sz w b 0 n d' os) (cells := putCells id 0 (flatK El.vs sz d') cells) (sz := sz) (es := d'.toList) (o := 0) (fun e _ => hc _) (fun i h r u hu => by
    have k := zz8 (cur := cells) (sz := sz) (es := d'.toList) (fun e _ => hvl e) (by rw [Array.length_toList, z1]; exact hcs) i h r u hu
    simpa using k) fun k hk => hgr.block k (by
     have : k ∈ fps := hpm.mem_iff.1 hk
     exact zah.lt _ _ _ _ _ q5 k this) fun e => hnb (by cases e; exact hpm.mem_iff.1 hk)
   rw [z3] at this
   exact this
  ·exact (List.Perm.nodup_iff (hpm.cons b)).2 hn
  ·rcases List.mem_cons.1 hx with rfl | hx
   ·simp
   ·exact List.mem_cons_of_mem _ (hpm.mem_iff.1 hx)
end Go.Proofs.YtmhbmpbgpjljeaaGreat
namespace Go.Proofs
open Go.Shelf
set_option maxRecDepth 100000
def Tryz.laysST_ren : Go.Shelf.Ren := ⟨fun | 6 => 99 | 15 => 161 | 14 => 160 | 28 => 212 | 29 => 213 | 20 => 204 | 21 => 205 | 22 => 206 | 23 => 207 | 24 => 208 | 25 => 209 | 26 => 210 | 27 => 211 | 46 => 236 | 47 => 237 | 48 => 238 | 49 => 239 | 50 => 240 | 57 => 262 | n => n, fun | 22 => 31 | 24 => 74 | 25 => 120 | 3 => 3 | 39 => 185 | 0 => 0 | 53 => 215 | 55 => 217 | 4 => 4 | 46 => 209 | 45 => 208 | 50 => 169 | 5 => 5 | 9 => 9 | 66 => 232 | 70 => 236 | 76 => 253 | 77 => 153 | n => n, fun | n => n⟩
theorem Tryz.laysST : Go.Proofs.SlLaysF0.n6 Tryz.prog Tryz.laysST_ren := {
 mixed := by kernel_rfl
 f6 := ⟨Tryz.f99.name, by decide, Tryz.func99.trans (congrArg some (by kernel_rfl))⟩
 f14 := ⟨Tryz.f160.name, by decide, Tryz.func160.trans (congrArg some (by kernel_rfl))⟩
 f15 := Tryz.func161.trans (congrArg some (by kernel_rfl))
 f20 := ⟨Tryz.f204.name, by decide, Tryz.func204.trans (congrArg some (by kernel_rfl))⟩
 f21 := ⟨Tryz.f205.name, by decide, Tryz.func205.trans (congrArg some (by kernel_rfl))⟩
 f22 := ⟨Tryz.f206.name, by decide, Tryz.func206.trans (congrArg some (by kernel_rfl))⟩
 f23 := ⟨Tryz.f207.name, by decide, Tryz.func207.trans (congrArg some (by kernel_rfl))⟩
 f24 := ⟨Tryz.f208.name, by decide, Tryz.func208.trans (congrArg some (by kernel_rfl))⟩
 f25 := ⟨Tryz.f209.name, by decide, Tryz.func209.trans (congrArg some (by kernel_rfl))⟩
 f26 := ⟨Tryz.f210.name, by decide, Tryz.func210.trans (congrArg some (by kernel_rfl))⟩
 f27 := ⟨Tryz.f211.name, by decide, Tryz.func211.trans (congrArg some (by kernel_rfl))⟩
 f28 := Tryz.func212.trans (congrArg some (by kernel_rfl))
 f29 := Tryz.func213.trans (congrArg some (by kernel_rfl))
 f46 := ⟨Tryz.f236.name, by decide, Tryz.func236.trans (congrArg some (by kernel_rfl))⟩
 f47 := Tryz.func237.trans (congrArg some (by kernel_rfl))
 f48 := Tryz.func238.trans (congrArg some (by kernel_rfl))
 f49 := ⟨Tryz.f239.name, by decide, Tryz.func239.trans (congrArg some (by kernel_rfl))⟩
 f50 := ⟨Tryz.f240.name, by decide, Tryz.func240.trans (congrArg some (by kernel_rfl))⟩
 f57 := ⟨Tryz.f262.name, by decide, Tryz.func262.trans (congrArg some (by kernel_rfl))⟩
 t0 := Tryz.underlying0
 a0 := Tryz.isAgg0
 z0 := Tryz.sizeOf0
 v0 := Tryz.zeroValue0
 t3 := Tryz.underlying3
 a3 := Tryz.isAgg3
 z3 := Tryz.sizeOf3
 v3 := Tryz.zeroValue3
 t4 := Tryz.underlying4
 a4 := Tryz.isAgg4
 z4 := Tryz.sizeOf4
 v4 := Tryz.zeroValue4
 t5 := Tryz.underlying5
 a5 := Tryz.isAgg5
 z5 := Tryz.sizeOf5
 v5 := Tryz.zeroValue5
 t9 := Tryz.underlying9
 a9 := Tryz.isAgg9
 z9 := Tryz.sizeOf9
 v9 := Tryz.zeroValue9
 t22 := Tryz.underlying31
 a22 := Tryz.isAgg31
 z22 := Tryz.sizeOf31
 v22 := Tryz.zeroValue31
 t25 := Tryz.underlying120
 a25 := Tryz.isAgg120
 z25 := Tryz.sizeOf120
 v25 := Tryz.zeroValue120
 t39 := Tryz.underlying185
 a39 := Tryz.isAgg185
 z39 := Tryz.sizeOf185
 v39 := Tryz.zeroValue185
 t45 := Tryz.underlying208
 a45 := Tryz.isAgg208
 z45 := Tryz.sizeOf208
 v45 := Tryz.zeroValue208
 t46 := Tryz.underlying209
 a46 := Tryz.isAgg209
 z46 := Tryz.sizeOf209
 v46 := Tryz.zeroValue209
 t50 := Tryz.underlying169
 a50 := Tryz.isAgg169
 z50 := Tryz.sizeOf169
 v50 := Tryz.zeroValue169
 t53 := Tryz.underlying215
 a53 := Tryz.isAgg215
 z53 := Tryz.sizeOf215
 v53 := Tryz.zeroValue215
 t55 := Tryz.underlying217
 a55 := Tryz.isAgg217
 z55 := Tryz.sizeOf217
 v55 := Tryz.zeroValue217
 t66 := Tryz.underlying232
 a66 := Tryz.isAgg232
 z66 := Tryz.sizeOf232
 v66 := Tryz.zeroValue232
 t70 := Tryz.underlying236
 a70 := Tryz.isAgg236
 z70 := Tryz.sizeOf236
 v70 := Tryz.zeroValue236
 t76 := Tryz.underlying253
 a76 := Tryz.isAgg253
 z76 := Tryz.sizeOf253
 v76 := Tryz.zeroValue253
 t77 := Tryz.underlying153
 a77 := Tryz.isAgg153
 z77 := Tryz.sizeOf153
 v77 := Tryz.zeroValue153 }
end Go.Proofs
namespace Go.Proofs.YtmhbmpbgpjljeaaGreat
set_option linter.unusedSimpArgs false
set_option linter.unusedVariables false
set_option linter.unusedSectionVars false
set_option maxRecDepth 4000
open Go.RowKit Go.Sort
theorem zgn (xs : List Cq) (p : Cq -> Bool) (g : FuncId) (caps : List T) (H : ∀ x ∈ xs, FC Tryz.prog g (cqD x :: caps.map .one) [bD (p x)]) : FC Tryz.prog 70 [.one (cqS xs), .one (.fn g caps)] [iD (zqe xs p)] := by
 refine zci (fun hw => ?_) Tryz.call70
 have hl : xs.length <= 9223372036854775807 := by simpa [zgk, wfT] using hw.1.1
 refine zau Tryz.call70 Tryz.func70 rfl (by kernel_rfl) (za6 (by kernel_rfl)) ?_
 simp -implicitDefEqProofs only [go_sem, Tryz.results70]
 refine zaf (fun k : Nat => hd [(0, vT (cqS xs)), (1, vT (.fn g caps)), (7, vI xs.length), (8, vI k)] [] []) (fun k => k <= xs.length /\ ∀ x ∈ xs.take k, p x = false) (fun k => xs.length - k) 0 (zaa ?_) ?_ ?_
 ·simp -implicitDefEqProofs only [go_sem]
 ·simp
 ·intro k ⟨hk, hr⟩
  by_cases hlt : k < xs.length
  ·simp -implicitDefEqProofs only [go_sem, zad, hlt, za9]
   refine callF (H xs[k] (List.getElem_mem hlt)) (by simp -implicitDefEqProofs only [go_sem, za9]) ?_
   simp -implicitDefEqProofs only [go_sem, za9]
   refine ⟨fun h => ?_, fun h => ⟨k + 1, ⟨hlt, zb5 hlt hr h⟩, by omega, zaa (by simp -implicitDefEqProofs only [go_sem]; rw [zam (by omega)])⟩⟩
   rw [zdu hlt hr h]
  ·simp -implicitDefEqProofs only [go_sem, hlt]
   rw [List.take_of_length_le (by omega)] at hr
   rw [zed hr]
theorem ze8 (xs : List Cq) (p : Cq -> Bool) (g : FuncId) (caps : List T) (H : ∀ x ∈ xs, FC Tryz.prog g (cqD x :: caps.map .one) [bD (p x)]) : FC Tryz.prog 73 [.one (cqS xs), .one (.fn g caps)] [bD (xs.any p)] := by
 refine zau Tryz.call73 Tryz.func73 rfl (by kernel_rfl) (za6 (by kernel_rfl)) ?_
 simp -implicitDefEqProofs only [go_sem, Tryz.results73]
 refine callF (zgn xs p g caps H) (by simp -implicitDefEqProofs only [go_sem]) ?_
 simp -implicitDefEqProofs only [go_sem]
 rw [zr8]
theorem qfg {α : Type} {c : α -> α -> Int} (h : GCmp c) : SWO (ltOf c) where
 irrefl x := by have := h.self x; simp [ltOf, this]
 trans x y z h1 h2 := by
  have n1 := h.neg x y
  have n2 := h.neg y z
  have n3 := h.neg x z
  have t1 := h.tr x y z
  have t2 := h.tr z x y
  have t3 := h.tr y z x
  simp only [ltOf, decide_eq_true_eq] at *
  omega
 ntrans x y z h1 h2 := by
  have n1 := h.neg x y
  have n2 := h.neg y z
  have n3 := h.neg x z
  have t1 := h.tr z y x
  simp only [ltOf, decide_eq_false_iff_not] at *
  omega
theorem qf9 {cs : List Cq} {c : Cq} (h : c ∈ cs) : c.wt <= znb cs := by
 have h2 : znb cs = cs.length + (cs.map Cq.wt).sum := rfl
 have := zcr Cq.wt cs c h
 omega
end Go.Proofs.YtmhbmpbgpjljeaaGreat
namespace Go.Proofs.YtmhbmpbgpjljeaaGreat
set_option linter.unusedSimpArgs false
set_option linter.unusedVariables false
set_option linter.unusedSectionVars false
set_option maxRecDepth 4000
open Go.RowKit
def srtL (ls : List Li) : List Li := ls.mergeSort fun a b => !ltOf zrb b a
end Go.Proofs.YtmhbmpbgpjljeaaGreat
namespace Go.Proofs.YtmhbmpbgpjljeaaGreat
set_option linter.unusedSimpArgs false
set_option linter.unusedVariables false
set_option linter.unusedSectionVars false
set_option maxRecDepth 4000
open Go.RowKit
noncomputable def mkC (ls : List Li) : Cq := ⟨cmpc (srtL ls)⟩
end Go.Proofs.YtmhbmpbgpjljeaaGreat
namespace Go.Proofs.YtmhbmpbgpjljeaaGreat
set_option linter.unusedSimpArgs false
set_option linter.unusedVariables false
set_option linter.unusedSectionVars false
set_option maxRecDepth 4000
open Go.RowKit
variable {X : Type}
def zeb (st : X -> List Tm -> Bool × X) : List Tm -> X -> List Tm -> Bool × X
 | [], x, _ => (true, x)
 | t :: ts, x, l => if (st x (l ++ [t])).1 = true then zeb st ts (st x (l ++ [t])).2 l else (false, (st x (l ++ [t])).2)
def ze7 (ts : List Tm) : Nat -> (X -> List Tm -> Bool × X) -> X -> Bool × X
 | 0, st, x => st x []
 | n + 1, st, x => ze7 ts n (zeb st ts) x
structure SeeC (P : Program) (f : FuncId) (caps : List Value) (JR : X -> Hj -> Prop) (R0 : Nat -> Prop) (Inv : X -> Prop) (okl : List Tm -> Prop) (st : X -> List Tm -> Bool × X) : Prop where
 cal : za1 P f
 r0 : ∀ x J, JR x J -> J.R = R0
 good : ∀ x J, JR x J -> GoodJ J
 inv : ∀ x l, Inv x -> okl l -> (st x l).1 = true -> Inv (st x l).2
 call : ∀ x J l, JR x J -> Inv x -> okl l -> ∀ w v, J.I w -> (∀ y, J.F y -> y < w.heap.size) -> (∀ y, J.R y -> y < w.heap.size) -> zai w (fun b => b < w.heap.size /\ ¬ J.F b) (tmS l) v →
  Calls P f ⟨v :: caps⟩ w fun e w' => ∃ J', e = .returned (.bool (st x l).1) /\ JR (st x l).2 J' /\ EndJ J w J' w'
section
variable {P : Program} {N : Nat} {ops : Array Oper} {i : Nat} {σ : St} {K : St -> Hj -> Prop} {f : FuncId} {caps : List Value} {JR : X -> Hj -> Prop} {R0 : Nat -> Prop} {Inv : X -> Prop} {okl : List Tm -> Prop} {st : X -> List Tm -> Bool × X}
theorem zd7.see (S : SeeC P f caps JR R0 Inv okl st) {d : Nat} {q : Operand} {asx : Array Operand} {ts : Array TypeId} {ty : TypeId} {ps : String} {af : Array Edge} {E : Nat -> Prop} {C : World -> Prop} (hk : zns E C) {J : Hj} {x : X} {l : List Tm} {V : V}
  (hl : ops[i]? = some ⟨some d, .call ⟨.value q, asx, ts⟩, ty, ps, af, none⟩) (hd : d < N) (hx : JR x J) (hi : Inv x) (ho : okl l) (hq : σ.get P 0 q = .one (.t (.cl f caps))) (ha : σ.gets P asx ts = [V])
  (hv : ∀ n1 g a w v, Rel n1 N σ g a w -> LtK n1 w -> OkJ (J.wide E C) n1 g.A0 w -> VR σ g w V v -> zai w (fun b => b < w.heap.size /\ ¬ J.F b) (tmS l) v)
  (k : ∀ J2, JR (st x l).2 J2 -> zd7 P N ops (i + 1) (σ.put (some d) (.one (.t (.bool (st x l).1)))) (J2.wide E C) K) : zd7 P N ops i σ (J.wide E C) K := by
 refine zd7.call (fun b J' => ∃ J2, b = (st x l).1 /\ JR (st x l).2 J2 /\ J' = J2.wide E C) hl hd (fun n1 g a w hR hn hJ => ?_) fun b J' hb => ?_
 ·obtain ⟨us, h1, h2⟩ := znl (P := P) hR (o := ⟨some d, .call ⟨.value q, asx, ts⟩, ty, ps, af, none⟩) rfl hq S.cal
  rw [ha] at h2
  obtain ⟨u, _, rfl, h2, rfl⟩ := h2
  refine ⟨f, _, h1, ?_⟩
  refine (S.call x J l hx hi ho w u hJ.I.1 (fun y hy => hn y (hJ.F y hy).1) (fun y hy => hn y (hJ.R y (Or.inl hy))) (hv n1 g a w u hR hn hJ h2)).mono ?_
  rintro e w' ⟨J', rfl, h3, h4⟩
  exact ⟨_, _, rfl, ⟨J', rfl, h3, rfl⟩, Hj.wide_end h4 (fun y hy => ⟨hn y (hJ.R y (Or.inr hy)), hJ.good.dis y (Or.inr hy)⟩) hk hJ.I.2⟩
 ·obtain ⟨J2, rfl, h2, rfl⟩ := hb
  exact k J2 h2
end
end Go.Proofs.YtmhbmpbgpjljeaaGreat
namespace Go.Proofs.YtmhbmpbgpjljeaaGreat
set_option linter.unusedSimpArgs false
set_option linter.unusedVariables false
set_option linter.unusedSectionVars false
set_option maxRecDepth 4000
open Go.RowKit
variable {X : Type}
theorem zuh {st : X -> List Tm -> Bool × X} {ts : List Tm} {k : Nat} (h : k < ts.length) (x : X) (l : List Tm) : zeb st (ts.drop k) x l = if (st x (l ++ [ts[k]])).1 = true then zeb st (ts.drop (k + 1)) (st x (l ++ [ts[k]])).2 l else (false, (st x (l ++ [ts[k]])).2) := by
 rw [List.drop_eq_getElem_cons h, zeb]
theorem zyq {st : X -> List Tm -> Bool × X} {ts : List Tm} {k : Nat} (h : ¬ k < ts.length) (x : X) (l : List Tm) : zeb st (ts.drop k) x l = (true, x) := by
 rw [List.drop_eq_nil_of_le (by omega), zeb]
set_option maxHeartbeats 4000000 in
theorem zqr {f : FuncId} {caps : List Value} {JR : X -> Hj -> Prop} {R0 : Nat -> Prop} {Inv : X -> Prop} {okl : List Tm -> Prop} {st : X -> List Tm -> Bool × X} (S : SeeC Tryz.prog f caps JR R0 Inv okl st) {E : Nat -> Prop} {C : World -> Prop} (hk : zns E C)
  {fl ft : List (List T)} {l ts : List Tm} (hC : ∀ w, C w -> zbp w E fl l /\ zbp w E ft ts) (hcf : ∀ c ∈ fl.flatten, c.flat = true) (hsh : ∀ r ∈ ft, ∃ s ao n c, r = [.str s, .vs ao n c]) (hfl : fl.length = l.length) (hft : ft.length = ts.length) (hl : l.length <= 1048576) (ht : ts.length <= 1048576) {x : X} {J : Hj} (hx : JR x J) (hi : Inv x) (ho : ∀ t ∈ ts, okl (l ++ [t])) :
  JC Tryz.prog 157 [.one (.sl 2 fl), .one (.ptr [.sl 2 ft]), .one (.ptr [.cl f caps])] (J.wide E C) (fun b J' => ∃ J2, b = (zeb st ts x l).1 /\ JR (zeb st ts x l).2 J2 /\ J' = J2.wide E C) := by
 refine qi1 Tryz.call157 Tryz.func157 rfl (za6 (by kernel_rfl)) ?_ ?_
 ·rintro b J' ⟨J2, _, h2, rfl⟩ y hy
  rcases hy with hy | hy
  ·exact Or.inl (by rw [S.r0 x J hx]; rw [S.r0 _ J2 h2] at hy; exact hy)
  ·exact Or.inr hy
 have HCl := zzf fl (by omega) hcf
 refine zbj.cut 0 rfl (by kernel_rfl) ?_
 simp -implicitDefEqProofs only [go_sem, Tryz.results157]
 refine zbj.seq ?_
 refine zbj.cut 0 rfl (by kernel_rfl) ?_
 simp -implicitDefEqProofs only [go_sem]
 refine zbj.block ?_
 refine zbj.loop (fun z : Nat × X × Hj => hd [(0, vT (.sl 2 fl)), (1, vT (.ptr [.sl 2 ft])), (2, vT (.ptr [.cl f caps])), (7, vT (.sl 2 ft)), (8, vI ts.length), (9, vI z.1)] [] []) (fun z => z.2.2.wide E C)
  (fun z => z.1 <= ts.length /\ JR z.2.1 z.2.2 /\ Inv z.2.1 /\ zeb st ts x l = zeb st (ts.drop z.1) z.2.1 l) (fun z => ts.length - z.1) (0, x, J) (zaa ?_) rfl ⟨Nat.zero_le _, hx, hi, rfl⟩ ?_
 ·simp -implicitDefEqProofs only [go_sem, hft]
 rintro ⟨k, y, J1⟩ ⟨hk1, hy, hiy, heq⟩
 simp only at hk1 hy hiy heq ⊢
 by_cases hlt : k < ts.length
 ·obtain ⟨s, ao, n, c, hrow⟩ := hsh ft[k] (List.getElem_mem (by omega))
  have hget : ft.getD k [] = [.str s, .vs ao n c] := by rw [List.getD_eq_getElem?_getD, List.getElem?_eq_getElem (by omega)]; exact hrow
  refine zbj.cut 1 rfl (by kernel_rfl) ?_
  simp -implicitDefEqProofs only [go_sem, hlt]
  refine zbj.seq ?_
  refine zbj.block ?_
  refine zbj.cut 0 rfl (by kernel_rfl) ?_
  simp -implicitDefEqProofs only [go_sem, hft, hlt, hget]
  refine zbj.seq (zbj.drawn 6 (by kernel_rfl) (by kernel_rfl) (by kernel_rfl) ?_)
  simp -implicitDefEqProofs only [go_sem]
  refine zay (HCl) (by simp -implicitDefEqProofs only [go_sem]) ?_
  simp -implicitDefEqProofs only [go_sem]
  refine zc8 (by simp -implicitDefEqProofs only [go_sem]) ?_
  simp -implicitDefEqProofs only [go_sem]
  have hfl2 : fl.length <= 4294967295 := by omega
  refine zfs true (by simp -implicitDefEqProofs only [go_sem, hfl2, ne_eq, not_false_eq_true]) ?_
  simp -implicitDefEqProofs only [go_sem, hfl2, ne_eq, not_false_eq_true]
  refine ⟨by kernel_rfl, ?_⟩
  have hFT : ∀ w, C w -> zjp w E [.str s, .vs ao n c] ts[k] := fun w hw => by
   have := (hC w hw).2.at k (by omega) hlt
   rw [hrow] at this
   exact this
  have hto : okl (l ++ [ts[k]]) := ho _ (List.getElem_mem hlt)
  refine zd7.see S hk (x := y) (l := l ++ [ts[k]]) rfl (by simp only [Tryz.ntmps157]; omega) hy hiy hto (by simp -implicitDefEqProofs only [go_sem]) (by simp -implicitDefEqProofs only [go_sem]; rfl) (fun n1 g a w v hR hn hJ hv => ?_) fun J2 hJ2 => ?_
  ·simp only [VR, CR] at hv
   obtain ⟨rfl, -⟩ := hv
   have hA := qi9 (N := Tryz.f157.ntmps) hR hn hJ (e := 480) (by simp -implicitDefEqProofs only [go_sem]; rfl) rfl rfl
   have hF := hC w hJ.I.2
   exact hA.deepL (A' := E) (fun b hb => hb) (fun b hb => ⟨hn b (hJ.R b (Or.inr hb)), hJ.good.dis b (Or.inr hb)⟩) (hF.1.snoc (hFT w hJ.I.2))
  ·refine zd7.plain 1 (by decide) rfl (by kernel_rfl) ?_
   simp -implicitDefEqProofs only [go_sem]
   refine zd7.done rfl ?_
   simp -implicitDefEqProofs only [go_sem]
   rw [zuh hlt] at heq
   have hinv := S.inv y _ hiy hto
   cases hb : (st y (l ++ [ts[k]])).1
   ·rw [hb, if_neg (by simp)] at heq
    refine zbj.ofEx (by kernel_rfl) ?_
    simp -implicitDefEqProofs only [go_sem, Bool.not_false, hb]
    exact ⟨false, by simp -implicitDefEqProofs only [go_sem], J2, by rw [heq], by rw [heq]; exact hJ2, rfl⟩
   ·rw [hb, if_pos rfl] at heq
    refine zbj.ofEx (by kernel_rfl) ?_
    simp -implicitDefEqProofs only [go_sem, Bool.not_true, hb]
    refine zbj.ofEx (by kernel_rfl) ?_
    simp -implicitDefEqProofs only [go_sem]
    refine ⟨(k + 1, (st y (l ++ [ts[k]])).2, J2), ⟨by simp only; omega, hJ2, hinv hb, heq⟩, by simp only; omega, rfl, zaa ?_⟩
    simp -implicitDefEqProofs only [go_sem]
    rw [zam (by omega)]
 ·rw [zyq hlt] at heq
  refine zbj.cut 1 rfl (by kernel_rfl) ?_
  simp -implicitDefEqProofs only [go_sem, hlt]
  refine zbj.ofEx (by kernel_rfl) ?_
  simp -implicitDefEqProofs only [go_sem]
  exact ⟨true, by simp -implicitDefEqProofs only [go_sem], J1, by rw [heq], by rw [heq]; exact hy, rfl⟩
end Go.Proofs.YtmhbmpbgpjljeaaGreat
namespace Go.Proofs.YtmhbmpbgpjljeaaGreat
set_option linter.unusedSimpArgs false
set_option linter.unusedVariables false
set_option linter.unusedSectionVars false
set_option maxRecDepth 4000
open Go.RowKit
variable {X : Type}
theorem zn6 {st : X -> List Tm -> Bool × X} {Inv : X -> Prop} {okl : List Tm -> Prop} (h : ∀ x l, Inv x -> okl l -> (st x l).1 = true -> Inv (st x l).2) : ∀ (ts : List Tm) (x : X) (l : List Tm), Inv x -> (∀ t ∈ ts, okl (l ++ [t])) -> (zeb st ts x l).1 = true -> Inv (zeb st ts x l).2
 | [], x, l, hi, _, _ => hi
 | t :: ts, x, l, hi, ho, hb => by
  rw [zeb] at hb ⊢
  by_cases hc : (st x (l ++ [t])).1 = true
  ·rw [if_pos hc] at hb ⊢
   exact zn6 h ts _ l (h x _ hi (ho t (by simp)) hc) (fun u hu => ho u (by simp [hu])) hb
  ·rw [if_neg hc] at hb
   cases hb
theorem zbp.shape {w : World} {A : Nat -> Prop} : ∀ {rs : List (List T)} {ts : List Tm}, zbp w A rs ts -> ∀ r ∈ rs, ∃ s ao n c, r = [.str s, .vs ao n c]
 | [], _, _, r, hr => by simp at hr
 | _ :: _, _, h, r, hr => by
  obtain ⟨t', ts, rfl, ⟨ao, l, c, rfl, _⟩, h2⟩ := h
  rcases List.mem_cons.1 hr with rfl | hr
  ·exact ⟨_, ao, l, c, rfl⟩
  ·exact zbp.shape h2 r hr
theorem SeeC.up {f : FuncId} {caps : List Value} {JR : X -> Hj -> Prop} {R0 : Nat -> Prop} {Inv : X -> Prop} {okl : List Tm -> Prop} {st : X -> List Tm -> Bool × X} (S : SeeC Tryz.prog f caps JR R0 Inv okl st) {E : Nat -> Prop} {C : World -> Prop} (hk : zns E C)
  {ft : List (List T)} {ts : List Tm} (ht : ts.length <= 1048576) {p3 p5 : Value} (hC : ∀ w, C w -> zai w E (.ptr [.sl 2 ft]) p3 /\ zbp w E ft ts /\ zai w E (.ptr [.cl f caps]) p5) :
  SeeC Tryz.prog 157 [p3, p5] (fun x J' => ∃ J, JR x J /\ (∀ y, E y -> ¬ J.F y) /\ J' = J.wide E C) (fun y => R0 y \/ E y) Inv (fun l => l.length <= 1048576 /\ ∀ t ∈ ts, okl (l ++ [t])) (zeb st ts) := by
 refine ⟨Tryz.call157, ?_, ?_, fun x l hi ho hb => zn6 S.inv ts x l hi ho.2 hb, ?_⟩
 ·rintro x _ ⟨J, h1, h2, rfl⟩
  funext y
  show (J.R y \/ E y) = _
  rw [S.r0 x J h1]
 ·rintro x _ ⟨J, h1, h2, rfl⟩
  exact Hj.wide_good (S.good x J h1) h2 hk
 ·rintro x _ l ⟨J, h1, h2, rfl⟩ hi ⟨hl, ho⟩ w v hI hF hR hv
  have hF : ∀ y, J.F y -> y < w.heap.size := hF
  have hR : ∀ y, J.R y \/ E y -> y < w.heap.size := hR
  obtain ⟨hI, hc⟩ := hI
  obtain ⟨r3, rt, r5⟩ := hC w hc
  have hv : zai w (fun b => b < w.heap.size /\ ¬ J.F b) (tmS l) v := hv
  obtain ⟨fl, v1, v2⟩ := hv.flatL
  have hEE : ∀ y, E y -> y < w.heap.size /\ ¬ J.F y := fun y hy => ⟨hR y (Or.inr hy), h2 y hy⟩
  have hk2 : zns (fun b => b < w.heap.size /\ ¬ J.F b) (fun w' => zbp w' (fun b => b < w.heap.size /\ ¬ J.F b) fl l /\ zbp w' (fun b => b < w.heap.size /\ ¬ J.F b) ft ts) := fun a b hs h => ⟨h.1.keep hs fun _ q => q, h.2.keep hs fun _ q => q⟩
  have hc2 : zbp w (fun b => b < w.heap.size /\ ¬ J.F b) fl l /\ zbp w (fun b => b < w.heap.size /\ ¬ J.F b) ft ts := ⟨v2, rt.keep (fun _ _ => rfl) hEE⟩
  have H := zqr S hk2 (fun w hw => hw) v2.flat rt.shape v2.len rt.len hl ht h1 hi ho
  have hgJ := S.good x J h1
  refine (H.2 w [v, p3, p5] (fun b => b < w.heap.size /\ ¬ J.F b) (Hj.wide_good hgJ (fun y hy => hy.2) hk2) ⟨hI, hc2⟩ (fun y hy => ⟨hF y hy, fun q => q.2 hy⟩) (fun y hy => hy.elim (fun q => hR y (Or.inl q)) fun q => q.1) ?_).mono ?_
  ·refine ⟨v, _, rfl, zai.keep (fun _ _ => rfl) (fun b hb => ⟨hb.1, hb⟩) _ _ v1, p3, _, rfl, zai.keep (fun _ _ => rfl) (fun b hb => ⟨(hEE b hb).1, hEE b hb⟩) _ _ r3, p5, _, rfl, zai.keep (fun _ _ => rfl) (fun b hb => ⟨(hEE b hb).1, hEE b hb⟩) _ _ r5, rfl⟩
  ·rintro e w' ⟨b, _, rfl, ⟨J2, rfl, k1, rfl⟩, k2⟩
   have hEnd : EndJ J w J2 w' := Hj.wide_drop k2 (S.good _ J2 k1) (fun y hy => by rw [S.r0 x J h1]; rw [S.r0 _ J2 k1] at hy; exact hy)
   exact ⟨J2.wide E C, rfl, ⟨J2, k1, fun y hy hf => (hEnd.F y hf).1.elim (h2 y hy) fun q => by have := (hEE y hy).1; omega, rfl⟩, Hj.wide_end hEnd hEE hk hc⟩
section
variable {P : Program} {N : Nat} {ops : Array Oper} {i : Nat} {σ : St} {K : St -> Hj -> Prop} {f : FuncId} {caps : List Value} {JR : X -> Hj -> Prop} {R0 : Nat -> Prop} {Inv : X -> Prop} {okl : List Tm -> Prop} {st : X -> List Tm -> Bool × X}
theorem zd7.see0 (S : SeeC P f caps JR R0 Inv okl st) {d : Nat} {q : Operand} {asx : Array Operand} {ts : Array TypeId} {ty : TypeId} {ps : String} {af : Array Edge} {J : Hj} {x : X} {l : List Tm} {V : V}
  (hl : ops[i]? = some ⟨some d, .call ⟨.value q, asx, ts⟩, ty, ps, af, none⟩) (hd : d < N) (hx : JR x J) (hi : Inv x) (ho : okl l) (hq : σ.get P 0 q = .one (.t (.cl f caps))) (ha : σ.gets P asx ts = [V])
  (hv : ∀ n1 g a w v, Rel n1 N σ g a w -> LtK n1 w -> OkJ J n1 g.A0 w -> VR σ g w V v -> zai w (fun b => b < w.heap.size /\ ¬ J.F b) (tmS l) v)
  (k : ∀ J2, JR (st x l).2 J2 -> zd7 P N ops (i + 1) (σ.put (some d) (.one (.t (.bool (st x l).1)))) J2 K) : zd7 P N ops i σ J K := by
 refine zd7.call (fun b J' => b = (st x l).1 /\ JR (st x l).2 J') hl hd (fun n1 g a w hR hn hJ => ?_) fun b J' hb => ?_
 ·obtain ⟨us, h1, h2⟩ := znl (P := P) hR (o := ⟨some d, .call ⟨.value q, asx, ts⟩, ty, ps, af, none⟩) rfl hq S.cal
  rw [ha] at h2
  obtain ⟨u, _, rfl, h2, rfl⟩ := h2
  refine ⟨f, _, h1, ?_⟩
  refine (S.call x J l hx hi ho w u hJ.I (fun y hy => hn y (hJ.F y hy).1) (fun y hy => hn y (hJ.R y hy)) (hv n1 g a w u hR hn hJ h2)).mono ?_
  rintro e w' ⟨J', rfl, h3, h4⟩
  exact ⟨_, _, rfl, ⟨rfl, h3⟩, h4⟩
 ·obtain ⟨rfl, h2⟩ := hb
  exact k J' h2
end
theorem qeb {P : Program} {N : Nat} {n0 : Nat -> Prop} {σ : St} {g : Gh} {a : Act} {w : World} (hR : Rel n0 N σ g a w) {f : FuncId} (hf : za1 P f) {o : Oper} {x : Operand} {asx : Array Operand} {ts : Array TypeId} {cvs : List V} {Q : Ending -> World -> Prop} (ho : o.op = .call ⟨.value x, asx, ts⟩)
  (hc : zav (σ.get P 0 x) = some (f, cvs)) (k : ∀ vs, VRl σ g w (σ.gets P asx ts ++ cvs) vs -> Calls P f ⟨vs⟩ w Q) : ∃ f vs, (execOp a.eval o).run P w = .ok (.enter f vs) w /\ Calls P f vs w Q := by
 obtain ⟨vs, h1, h2⟩ := zct hR ho hc hf
 exact ⟨f, _, h1, k vs h2⟩
theorem zu5 {N : Nat} {f : FuncId} {caps : List Value} {JR : X -> Hj -> Prop} {R0 : Nat -> Prop} {Inv : X -> Prop} {okl : List Tm -> Prop} {st : X -> List Tm -> Bool × X} (S : SeeC Tryz.prog f caps JR R0 Inv okl st) {ts : List Tm} (ht : ts.length <= 1048576) {n : Nat}
  (ih : n <= 1048576 -> ∀ {f : FuncId} {caps : List Value} {JR : X -> Hj -> Prop} {R0 : Nat -> Prop} {Inv : X -> Prop} {okl : List Tm -> Prop} {st : X -> List Tm -> Bool × X}, SeeC Tryz.prog f caps JR R0 Inv okl st -> (∀ l : List Tm, l.length = n -> (∀ t ∈ l, t ∈ ts) -> okl l) -> ∀ {x : X} {J : Hj}, JR x J -> Inv x →
   JC Tryz.prog 95 [.one (tmS ts), .one (.int .i64 n), .one (.cl f caps)] J (fun b J' => b = (ze7 ts n st x).1 /\ JR (ze7 ts n st x).2 J'))
  (hn : n + 1 <= 1048576) (hok : ∀ l : List Tm, l.length = n + 1 -> (∀ t ∈ l, t ∈ ts) -> okl l) {x : X} {J : Hj} (hx : JR x J) (hi : Inv x)
  {n1 : Nat -> Prop} {σ : St} {g : Gh} {a : Act} {w : World} (hR : Rel n1 N σ g a w) (hn1 : LtK n1 w) (hJ : OkJ J n1 g.A0 w) {o : Oper} {q : Operand} {asx : Array Operand} {tys : Array TypeId} (ho : o.op = .call ⟨.value q, asx, tys⟩)
  (hc : zav (σ.get Tryz.prog 0 q) = some (95, [])) (ha : σ.gets Tryz.prog asx tys = [.one (.t (tmS ts)), .one (.t (.int .i64 n)), .one (.fn 157 [3, 5])]) (h3 : σ.bx 3 = some [.t (tmS ts)]) (h5 : σ.bx 5 = some [.t (.cl f caps)]) :
  ∃ f vs, (execOp a.eval o).run Tryz.prog w = .ok (.enter f vs) w /\ Calls Tryz.prog f vs w fun e w' => ∃ b J', e = .returned (.bool b) /\ (b = (ze7 ts (n + 1) st x).1 /\ JR (ze7 ts (n + 1) st x).2 J') /\ EndJ J w J' w' := by
 refine qeb hR Tryz.call95 (cvs := []) ho hc fun vs hvs => ?_
 rw [ha] at hvs
 obtain ⟨v1, _, rfl, q1, v2, _, rfl, q2, v3, _, rfl, q3, rfl⟩ := hvs
 simp only [VR, CR] at q1 q2 q3
 obtain ⟨rfl, -⟩ := q3
 obtain ⟨c3, ty3, m3, k3⟩ := hR.boxes 3 _ h3
 obtain ⟨c5, ty5, m5, k5⟩ := hR.boxes 5 _ h5
 obtain ⟨c3⟩ := c3
 obtain ⟨c5⟩ := c5
 obtain ⟨u3, _, rfl, k3, rfl⟩ := k3
 obtain ⟨u5, _, rfl, k5, rfl⟩ := k5
 obtain ⟨ft, f1, f2⟩ := zai.flatL (show zai w (Fix σ g w) (tmS ts) u3 from k3)
 have k5 : zai w (Fix σ g w) (.cl f caps) u5 := k5
 have b3 : ¬ n1 (g.β 3) := hR.base 3 (by rw [h3]; simp)
 have b5 : ¬ n1 (g.β 5) := hR.base 5 (by rw [h5]; simp)
 have l3 : g.β 3 < w.heap.size := hR.lt (by rw [h3]; simp)
 have l5 : g.β 5 < w.heap.size := hR.lt (by rw [h5]; simp)
 have e3 : w.cell? ⟨g.β 3, 0, none⟩ = some u3 := by simp [World.cell?, m3]
 have e5 : w.cell? ⟨g.β 5, 0, none⟩ = some u5 := by simp [World.cell?, m5]
 have hE : ∀ b, (Fix σ g w b \/ b = g.β 3 \/ b = g.β 5) -> b < w.heap.size /\ ¬ J.F b := by
  rintro b (hb | rfl | rfl)
  ·exact ⟨hb.2.2.1, fun hF => (hJ.F b hF).2 hb.2.2.2⟩
  ·exact ⟨l3, fun hF => b3 (hJ.F _ hF).1⟩
  ·exact ⟨l5, fun hF => b5 (hJ.F _ hF).1⟩
 generalize hEd : (fun b => Fix σ g w b \/ b = g.β 3 \/ b = g.β 5) = E at *
 have hFE : ∀ b, Fix σ g w b -> E b := fun b hb => by rw [<- hEd]; exact Or.inl hb
 have hE3 : E (g.β 3) := by rw [<- hEd]; exact Or.inr (Or.inl rfl)
 have hE5 : E (g.β 5) := by rw [<- hEd]; exact Or.inr (Or.inr rfl)
 have hE : ∀ b, E b -> b < w.heap.size /\ ¬ J.F b := fun b hb => hE b (by rw [<- hEd] at hb; exact hb)
 have hk : zns E (fun w' => zai w' E (.ptr [.sl 2 ft]) (.pointer (some ⟨g.β 3, 0, none⟩)) /\ zbp w' E ft ts /\ zai w' E (.ptr [.cl f caps]) (.pointer (some ⟨g.β 5, 0, none⟩))) := fun a b hs h => ⟨zai.keep hs (fun _ q => q) _ _ h.1, h.2.1.keep hs fun _ q => q, zai.keep hs (fun _ q => q) _ _ h.2.2⟩
 have hc0 : zai w E (.ptr [.sl 2 ft]) (.pointer (some ⟨g.β 3, 0, none⟩)) /\ zbp w E ft ts /\ zai w E (.ptr [.cl f caps]) (.pointer (some ⟨g.β 5, 0, none⟩)) := by
  refine ⟨?_, f2.keep (fun _ _ => rfl) hFE, ?_⟩
  ·unfold zai
   exact ⟨_, 0, rfl, hE3, ⟨u3, e3, zai.keep (fun _ _ => rfl) hFE _ _ f1⟩, trivial⟩
  ·unfold zai
   exact ⟨_, 0, rfl, hE5, ⟨u5, e5, zai.keep (fun _ _ => rfl) hFE _ _ k5⟩, trivial⟩
 have S' := S.up hk ht (fun w hw => hw)
 have H := ih (by omega) S' (fun l hl hm => ⟨by omega, fun t htt => hok _ (by simp [hl]) fun q hq => by
  rcases List.mem_append.1 hq with h | h
  ·exact hm q h
  ·rw [List.mem_singleton.1 h]; exact htt⟩) (x := x) (J := J.wide E _) ⟨J, hx, fun y hy => (hE y hy).2, rfl⟩ hi
 refine (H.2 w [v1, v2, _] E (S'.good x _ ⟨J, hx, fun y hy => (hE y hy).2, rfl⟩) ⟨hJ.I, hc0⟩ (fun y hy => ⟨hn1 y (hJ.F y hy).1, fun q => (hE y q).2 hy⟩) (fun y hy => hy.elim (fun q => hn1 y (hJ.R y q)) fun q => (hE y q).1) ?_).mono ?_
 ·refine ⟨v1, _, rfl, zai.keep (fun _ _ => rfl) (fun b hb => ⟨(hE b (hFE b hb)).1, hFE b hb⟩) _ _ q1, v2, _, rfl, zai.keep (fun _ _ => rfl) (fun b hb => ⟨(hE b (hFE b hb)).1, hFE b hb⟩) _ _ q2, _, _, rfl, ?_, rfl⟩
  show zai _ _ _ _
  unfold zai
  rfl
 ·rintro e w' ⟨b, _, rfl, ⟨rfl, J2, r1, r2, rfl⟩, r3⟩
  refine ⟨_, J2, rfl, ⟨rfl, r1⟩, Hj.wide_drop r3 (S.good _ J2 r1) fun y hy => ?_⟩
  rw [S.r0 x J hx]; rw [S.r0 _ J2 r1] at hy; exact hy
set_option maxHeartbeats 4000000 in
theorem zpz (ts : List Tm) (ht : ts.length <= 1048576) : ∀ (n : Nat), n <= 1048576 -> ∀ {f : FuncId} {caps : List Value} {JR : X -> Hj -> Prop} {R0 : Nat -> Prop} {Inv : X -> Prop} {okl : List Tm -> Prop} {st : X -> List Tm -> Bool × X} (S : SeeC Tryz.prog f caps JR R0 Inv okl st)
  (hok : ∀ l : List Tm, l.length = n -> (∀ t ∈ l, t ∈ ts) -> okl l) {x : X} {J : Hj}, JR x J -> Inv x →
  JC Tryz.prog 95 [.one (tmS ts), .one (.int .i64 n), .one (.cl f caps)] J (fun b J' => b = (ze7 ts n st x).1 /\ JR (ze7 ts n st x).2 J') := by
 intro n
 induction n with
 | zero =>
  intro _ f caps JR R0 Inv okl st S hok x J hx hi
  refine qi1 Tryz.call95 Tryz.func95 rfl (za6 (by kernel_rfl)) ?_ ?_
  ·rintro b J' ⟨_, h2⟩ y hy
   rw [S.r0 x J hx]; rw [S.r0 _ J' h2] at hy; exact hy
  refine zbj.cut 0 rfl (by kernel_rfl) ?_
  simp -implicitDefEqProofs only [go_sem, Tryz.results95]
  refine zbj.seq ?_
  refine zbj.cut 0 rfl (by kernel_rfl) ?_
  simp -implicitDefEqProofs only [go_sem]
  have e0 : (((0 : Nat) : Int) == 0) = true := by simp
  refine zbj.cond (b := true) (by simp -implicitDefEqProofs only [go_sem, e0]) (fun _ => ?_) (fun h => by cases h)
  refine zbj.seq (zbj.region (zd7.plain 1 (by decide) rfl (by kernel_rfl) ?_))
  simp -implicitDefEqProofs only [go_sem]
  refine zd7.see0 S (x := x) (l := []) rfl (by simp only [Tryz.ntmps95]; omega) hx hi (hok [] rfl (by simp)) (by simp -implicitDefEqProofs only [go_sem]) (by simp -implicitDefEqProofs only [go_sem]; rfl) (fun n1 g a w v hR hn hJ hv => ?_) fun J2 hJ2 => ?_
  ·simp only [VR, CR] at hv
   subst hv
   unfold zai
   exact ⟨none, 0, rfl, Nat.zero_le _, by unfold zdi; omega, Or.inl rfl⟩
  ·refine zd7.plain 1 (by decide) rfl (by kernel_rfl) ?_
   simp -implicitDefEqProofs only [go_sem]
   refine zd7.done rfl ?_
   simp -implicitDefEqProofs only [go_sem]
   refine zbj.ofEx (by kernel_rfl) ?_
   simp -implicitDefEqProofs only [go_sem]
   exact ⟨(st x []).1, by simp -implicitDefEqProofs only [go_sem], rfl, hJ2⟩
 | succ n ih =>
  intro hn f caps JR R0 Inv okl st S hok x J hx hi
  refine qi1 Tryz.call95 Tryz.func95 rfl (za6 (by kernel_rfl)) ?_ ?_
  ·rintro b J' ⟨_, h2⟩ y hy
   rw [S.r0 x J hx]; rw [S.r0 _ J' h2] at hy; exact hy
  refine zbj.cut 0 rfl (by kernel_rfl) ?_
  simp -implicitDefEqProofs only [go_sem, Tryz.results95]
  refine zbj.seq ?_
  refine zbj.cut 0 rfl (by kernel_rfl) ?_
  simp -implicitDefEqProofs only [go_sem]
  have e0 : (((n + 1 : Nat) : Int) == 0) = false := by simp; omega
  refine zbj.cond (b := false) (by simp -implicitDefEqProofs only [go_sem, e0]) (fun h => by cases h) fun _ => ?_
  refine zbj.ofEx (by kernel_rfl) ?_
  simp -implicitDefEqProofs only [go_sem]
  refine zbj.seq (zbj.region (zd7.plain 4 (by decide) rfl (by kernel_rfl) ?_))
  have e1 : IntKind.i64.wrap (((n + 1 : Nat) : Int) - 1) = (n : Int) := by rw [zbb (by omega) (by omega)]; omega
  simp -implicitDefEqProofs only [go_sem, e1]
  refine zd7.call (fun b J' => b = (ze7 ts (n + 1) st x).1 /\ JR (ze7 ts (n + 1) st x).2 J') rfl (by simp only [Tryz.ntmps95]; omega) (fun n1 g a w hR hn1 hJ => ?_) fun b J' hb => ?_
  ·exact zu5 S ht ih (by omega) hok hx hi hR hn1 hJ rfl (by simp -implicitDefEqProofs only [go_sem]) (by simp -implicitDefEqProofs only [go_sem]) (by simp -implicitDefEqProofs only [go_sem]) (by simp -implicitDefEqProofs only [go_sem])
  ·obtain ⟨rfl, h2⟩ := hb
   refine zd7.plain 1 (by decide) rfl (by kernel_rfl) ?_
   simp -implicitDefEqProofs only [go_sem]
   refine zd7.done rfl ?_
   simp -implicitDefEqProofs only [go_sem]
   refine zbj.ofEx (by kernel_rfl) ?_
   simp -implicitDefEqProofs only [go_sem]
   exact ⟨(ze7 ts (n + 1) st x).1, by simp -implicitDefEqProofs only [go_sem], rfl, h2⟩
end Go.Proofs.YtmhbmpbgpjljeaaGreat
namespace Go.Proofs.YtmhbmpbgpjljeaaGreat
set_option linter.unusedSimpArgs false
set_option linter.unusedVariables false
set_option linter.unusedSectionVars false
set_option maxRecDepth 4000
open Go.RowKit
variable {X : Type}
theorem zeg.split {w : World} {bs : Nat -> Nat} : ∀ {b1 b2 : Bxs} {j : Nat} {bvs : List (List Value)}, zeg w bs j bvs (b1 ++ b2) -> ∃ v1 v2, bvs = v1 ++ v2 /\ zeg w bs j v1 b1 /\ zeg w bs (j + b1.length) v2 b2
 | [], b2, j, bvs, h => ⟨[], bvs, rfl, by unfold zeg; trivial, h⟩
 | b :: b1, b2, j, [], h => h.elim
 | b :: b1, b2, j, vs :: bvs, h => by
  obtain ⟨h1, h2, h3⟩ := h
  obtain ⟨v1, v2, rfl, k1, k2⟩ := zeg.split h3
  exact ⟨vs :: v1, v2, rfl, ⟨h1, h2, k1⟩, by rw [List.length_cons, show j + (b1.length + 1) = j + 1 + b1.length by omega]; exact k2⟩
theorem zeg.append {w : World} {bs : Nat -> Nat} : ∀ {b1 b2 : Bxs} {j : Nat} {v1 v2 : List (List Value)}, zeg w bs j v1 b1 -> zeg w bs (j + b1.length) v2 b2 -> zeg w bs j (v1 ++ v2) (b1 ++ b2)
 | [], b2, j, [], v2, _, k => k
 | [], b2, j, _ :: _, v2, h, k => h.elim
 | b :: b1, b2, j, [], v2, h, _ => h.elim
 | b :: b1, b2, j, vs :: v1, v2, h, k => ⟨h.1, h.2.1, zeg.append h.2.2 (by rw [List.length_cons, show j + (b1.length + 1) = j + 1 + b1.length by omega] at k; exact k)⟩
theorem zeg.flatLen {w : World} {bs : Nat -> Nat} : ∀ {b : Bxs} {j : Nat} {vs : List (List Value)}, zeg w bs j vs b -> vs.flatten.length = b.flatten.length
 | [], _, [], _ => rfl
 | [], _, _ :: _, h => h.elim
 | _ :: _, _, [], h => h.elim
 | _ :: _, _, _ :: _, h => by simp only [List.flatten_cons, List.length_append, h.1, zeg.flatLen h.2.2]
theorem zdw {w w' : World} {A A' : Nat -> Prop} : ∀ {b : List (Bool × T)}, (∀ p ∈ b, p.1 = true) -> ∀ {vs : List Value} {fp tp : List Nat}, zar w A (bxA b) vs fp tp -> (∀ x ∈ fp, w'.heap[x]? = w.heap[x]?) -> zar w' A' (bxA b) vs fp tp
 | [], _, _, _, _, h, _ => h
 | (true, t) :: b, ht, _, _, _, h, hs => by
  obtain ⟨v, vs', f1, f2, t1, t2, rfl, rfl, rfl, h1, h2⟩ := h
  exact ⟨v, vs', f1, f2, t1, t2, rfl, rfl, rfl, ⟨zao.keep _ _ _ h1.1 fun x hx => hs x (by simp [hx]), h1.2⟩, zdw (fun p hp => ht p (by simp [hp])) h2 fun x hx => hs x (by simp [hx])⟩
 | (false, t) :: b, ht, _, _, _, _, _ => by have := ht (false, t) (by simp); cases this
theorem zl6 {w : World} {A : Nat -> Prop} : ∀ {b : List (Bool × T)}, (∀ p ∈ b, p.1 = true) -> ∀ {vs : List Value} {fp tp : List Nat}, zar w A (bxA b) vs fp tp -> ∀ x ∈ fp, x < w.heap.size
 | [], _, _, _, _, h, x, hx => by rw [h.2.1] at hx; simp at hx
 | (true, t) :: b, ht, _, _, _, h, x, hx => by
  obtain ⟨v, vs', f1, f2, t1, t2, rfl, rfl, rfl, h1, h2⟩ := h
  rcases List.mem_append.1 hx with q | q
  ·exact zao.lt _ _ _ h1.1 x q
  ·exact zl6 (fun p hp => ht p (by simp [hp])) h2 x q
 | (false, t) :: b, ht, _, _, _, _, _, _ => by have := ht (false, t) (by simp); cases this
theorem zaz.cut {w : World} {A : Nat -> Prop} : ∀ {c : List T} {r : List D} {vs us : List Value}, vs.length = c.length -> zaz w A (c.map D.one ++ r) (vs ++ us) -> zac w A c vs /\ zaz w A r us
 | [], r, [], us, _, h => ⟨by unfold zac; rfl, h⟩
 | [], r, _ :: _, us, hl, _ => by simp at hl
 | _ :: _, r, [], us, hl, _ => by simp at hl
 | t :: c, r, v :: vs, us, hl, h => by
  obtain ⟨v', vs', e, h1, h2⟩ := h
  simp only [List.cons_append, List.cons.injEq] at e
  obtain ⟨rfl, rfl⟩ := e
  obtain ⟨k1, k2⟩ := zaz.cut (by simpa using hl) h2
  exact ⟨by unfold zac; exact ⟨_, _, rfl, h1, k1⟩, k2⟩
abbrev csB (cs : List (List T)) : Bxs := cs.map fun c => c.map fun t => (false, t)
theorem zyk : ∀ cs : List (List T), bxA (csB cs).flatten = rd (cs.flatten.map D.one)
 | [] => rfl
 | c :: cs => by
  have h1 : bxA (c.map fun t => (false, t)) = rd (c.map D.one) := by simp [bxA, rd, List.map_map, Function.comp_def]
  show bxA ((c.map fun t => (false, t)) ++ (csB cs).flatten) = _
  rw [zcv, h1, zyk cs]
  simp [rd]
theorem zn9 {w : World} {A : Nat -> Prop} {bs : Nat -> Nat} : ∀ {cs : List (List T)} {j : Nat} {b2 : List (List Value)}, zeg w bs j b2 (csB cs) -> zaz w A (cs.flatten.map D.one) b2.flatten -> ∀ i, i < cs.length -> ∃ vs ty, w.heap[bs (j + i)]? = some (.cells ⟨vs⟩ ty (0, 0)) /\ zac w A (cs.getD i []) vs
 | [], _, _, _, _, i, hi => by simp at hi
 | c :: cs, j, [], h, _, _, _ => h.elim
 | c :: cs, j, vs :: b2, h, hr, i, hi => by
  obtain ⟨h1, ⟨ty, h2⟩, h3⟩ := h
  rw [List.flatten_cons, List.flatten_cons, List.map_append] at hr
  obtain ⟨k1, k2⟩ := zaz.cut (by simpa using h1) hr
  cases i with
  | zero => exact ⟨vs, ty, h2, k1⟩
  | succ i =>
   obtain ⟨us, ty', q1, q2⟩ := zn9 h3 k2 i (by simpa using hi)
   exact ⟨us, ty', by rw [show j + (i + 1) = j + 1 + i by omega]; exact q1, by simpa using q2⟩
theorem qik {w : World} {A A' : Nat -> Prop} (ha : ∀ b, A b -> A' b) {b : Nat} (hb : A' b) {vs : List Value} {ty : TypeId} {c : List T} (h : w.heap[b]? = some (.cells ⟨vs⟩ ty (0, 0))) (k : zac w A c vs) : zai w A' (.ptr c) (zjz b) := by
 unfold zai
 refine ⟨b, 0, rfl, hb, za4.mk fun i t hi => ?_⟩
 obtain ⟨v, h1, h2⟩ := k.at i t hi
 exact ⟨v, by rw [Nat.zero_add]; simp [World.cell?, h, h1], zai.keep (fun _ _ => rfl) ha _ _ h2⟩
def qba (m : Nat) (cs : List (List T)) (j : Nat) : AF := if j < m then .p j else .d false (.one (.ptr (cs.getD (j - m) [])))
theorem zjs (m : Nat) (cs : List (List T)) (bs : Nat -> Nat) : ∀ js : List Nat, AF.vals bs (js.map (qba m cs)) ((js.filter fun j => !decide (j < m)).map fun j => zjz (bs j)) = js.map fun j => zjz (bs j)
 | [] => rfl
 | j :: js => by
  by_cases h : j < m
  ·rw [List.map_cons, qba, if_pos h, List.filter_cons_of_neg (by simp [h]), AF.vals, zjs m cs bs js, List.map_cons]
  ·rw [List.map_cons, qba, if_neg h, List.filter_cons_of_pos (by simp [h]), List.map_cons, AF.vals, zjs m cs bs js, List.map_cons]
theorem zqj (m : Nat) (cs : List (List T)) : ∀ js : List Nat, AF.ds (js.map (qba m cs)) = rd ((js.filter fun j => !decide (j < m)).map fun j => .one (.ptr (cs.getD (j - m) [])))
 | [] => rfl
 | j :: js => by
  by_cases h : j < m
  ·rw [List.map_cons, qba, if_pos h, List.filter_cons_of_neg (by simp [h]), AF.ds, zqj m cs js]
  ·rw [List.map_cons, qba, if_neg h, List.filter_cons_of_pos (by simp [h]), List.map_cons, AF.ds, zqj m cs js]; rfl
def qis (m : Nat) (bs : Nat -> Nat) (bx : Bxs) (F : Nat -> Prop) (w : World) : Prop := ∃ vb fp tp, zeg w bs 0 vb bx /\ zar w (fun _ => False) (bxA bx.flatten) vb.flatten fp tp /\ fp.Nodup /\ (∀ j, j < m -> bs j ∉ fp) /\ ∀ b ∈ fp, F b
def qih (m : Nat) (bs : Nat -> Nat) (cs : List (List T)) (R0 : Nat -> Prop) (w : World) : Prop := ∀ i, i < cs.length -> zai w R0 (.ptr (cs.getD i [])) (zjz (bs (m + i)))
def JRb (m : Nat) (bs : Nat -> Nat) (bx : X -> Bxs) (cs : List (List T)) (R0 : Nat -> Prop) (x : X) (J : Hj) : Prop := J.R = R0 /\ (∀ j, j < m -> J.F (bs j)) /\ (∀ y, R0 y -> ¬ J.F y) /\ J.I = fun w => qis m bs (bx x) J.F w /\ qih m bs cs R0 w
theorem qih.keep {m : Nat} {bs : Nat -> Nat} {cs : List (List T)} {R0 : Nat -> Prop} {w w' : World} (hs : ∀ b, R0 b -> w'.heap[b]? = w.heap[b]?) (h : qih m bs cs R0 w) : qih m bs cs R0 w' := fun i hi => zai.keep hs (fun _ q => q) _ _ (h i hi)
theorem qis.keep {m : Nat} {bs : Nat -> Nat} {bx : Bxs} {F : Nat -> Prop} {w w' : World} (hm : bx.length = m) (ht : ∀ b ∈ bx, ∀ p ∈ b, p.1 = true) (hF : ∀ j, j < m -> F (bs j)) (hs : ∀ b, F b -> w'.heap[b]? = w.heap[b]?) (h : qis m bs bx F w) : qis m bs bx F w' := by
 obtain ⟨vb, fp, tp, h1, h2, h3, h4, h5⟩ := h
 exact ⟨vb, fp, tp, h1.keep (fun i hi => hs _ (by rw [Nat.zero_add]; exact hF i (by omega))), zdw (fun p hp => by obtain ⟨b, hb, hp⟩ := List.mem_flatten.1 hp; exact ht b hb p hp) h2 fun x hx => hs x (h5 x hx), h3, h4, h5⟩
theorem JRb.good {m : Nat} {bs : Nat -> Nat} {bx : X -> Bxs} {cs : List (List T)} {R0 : Nat -> Prop} (hm : ∀ x, (bx x).length = m) (ht : ∀ x, ∀ b ∈ bx x, ∀ p ∈ b, p.1 = true) {x : X} {J : Hj} (h : JRb m bs bx cs R0 x J) : GoodJ J := by
 obtain ⟨rfl, h2, h3, h4⟩ := h
 refine ⟨h3, fun w w' hs hi => ?_⟩
 rw [h4] at hi ⊢
 exact ⟨hi.1.keep (hm x) (ht x) h2 fun b hb => hs b (Or.inl hb), hi.2.keep fun b hb => hs b (Or.inr hb)⟩
theorem see_of {P : Program} {g : FuncId} {bx : X -> Bxs} {m : Nat} (hm : ∀ x, (bx x).length = m) (ht : ∀ x, ∀ b ∈ bx x, ∀ p ∈ b, p.1 = true) {cs : List (List T)} {js : List Nat} (hjs : ∀ j ∈ js, j < m + cs.length) {Inv : X -> Prop} {okl : List Tm -> Prop} {st : X -> List Tm -> Bool × X} (hcal : za1 P g)
  (hinv : ∀ x l, Inv x -> okl l -> (st x l).1 = true -> Inv (st x l).2) (HS : ∀ x l, Inv x -> okl l -> PC P g (bx x) (.d false (.one (tmS l)) :: js.map (qba m cs)) (bx (st x l).2) [(true, .one (.bool (st x l).1))])
  {bs : Nat -> Nat} (hbi : ∀ i j, i < m -> j < m -> bs i = bs j -> i = j) (R0 : Nat -> Prop) : SeeC P g (js.map fun j => zjz (bs j)) (JRb m bs bx cs R0) R0 Inv okl st := by
 refine ⟨hcal, fun x J h => h.1, fun x J h => h.good hm ht, hinv, fun x J l hJ hi ho w v hI hF hR hv => ?_⟩
 have hJ0 := hJ
 obtain ⟨hJR, hJF, hJd, hJI⟩ := hJ
 rw [hJI] at hI
 obtain ⟨⟨vb, fp, tp, i1, i2, i3, i4, i5⟩, ip⟩ := hI
 have hp : ∀ y, y < w.heap.size -> ¬ J.F y -> (y < w.heap.size /\ y ∉ fp /\ ∀ j, j < (bx x).length -> y ≠ bs j) /\ True := fun y h1 h2 => ⟨⟨h1, fun q => h2 (i5 y q), fun j hj e => h2 (e ▸ hJF j (by rw [<- hm x]; exact hj))⟩, trivial⟩
 have hptr : zaz w (fun y => (y < w.heap.size /\ y ∉ fp /\ ∀ j, j < (bx x).length -> y ≠ bs j) /\ True) ((js.filter fun j => !decide (j < m)).map fun j => .one (.ptr (cs.getD (j - m) []))) ((js.filter fun j => !decide (j < m)).map fun j => zjz (bs j)) := by
  have : ∀ l : List Nat, (∀ j ∈ l, m <= j /\ j < m + cs.length) -> zaz w (fun y => (y < w.heap.size /\ y ∉ fp /\ ∀ j, j < (bx x).length -> y ≠ bs j) /\ True) (l.map fun j => .one (.ptr (cs.getD (j - m) []))) (l.map fun j => zjz (bs j)) := by
   intro l
   induction l with
   | nil => intro _; rfl
   | cons j l ih =>
    intro h
    obtain ⟨a1, a2⟩ := h j (by simp)
    refine ⟨_, _, rfl, ?_, ih fun q hq => h q (by simp [hq])⟩
    have := ip (j - m) (by omega)
    rw [show m + (j - m) = j by omega] at this
    exact zai.keep (fun _ _ => rfl) (fun b hb => hp b (hR b (by rw [hJR]; exact hb)) (hJd b hb)) _ _ this
  refine this _ fun j hj => ?_
  obtain ⟨h1, h2⟩ := List.mem_filter.1 hj
  exact ⟨by simpa using h2, hjs j h1⟩
 have hds : AF.ds (AF.d false (.one (tmS l)) :: js.map (qba m cs)) = rd (.one (tmS l) :: (js.filter fun j => !decide (j < m)).map fun j => .one (.ptr (cs.getD (j - m) []))) := by
  rw [AF.ds, zqj]; rfl
 have H := (HS x l hi ho).2.2 w bs vb (v :: (js.filter fun j => !decide (j < m)).map fun j => zjz (bs j)) fp tp (fun _ => True) (fun i j hi hj => hbi i j (by rw [<- hm x]; exact hi) (by rw [<- hm x]; exact hj)) (fun j hj => i4 j (by rw [<- hm x]; exact hj)) i1 (by
  rw [hds]
  refine zar.rd_append (zar.keepA (fun _ q => q.elim) i2) ?_
  exact ⟨v, _, rfl, zai.keep (fun _ _ => rfl) (fun b hb => hp b hb.1 hb.2) _ _ hv, hptr⟩) i3 (by rw [hds]; simp [rd])
 rw [AF.vals, zjs] at H
 refine H.mono ?_
 rintro e w' ⟨us, vb', fp', tp', rfl, o1, o2, o3, o4, o5, o6⟩
 obtain ⟨u, us', f1, f2, t1, t2, e1, rfl, rfl, ⟨g1, -⟩, g2⟩ := o3
 obtain ⟨u0, rfl⟩ : ∃ u0, us = [u0] := by
  cases us with
  | nil => simp at o2
  | cons u0 us => cases us with
   | nil => exact ⟨u0, rfl⟩
   | cons _ _ => simp at o2
 simp only [List.cons_append, List.nil_append, List.cons.injEq] at e1
 obtain ⟨rfl, rfl⟩ := e1
 unfold zao at g1
 obtain ⟨rfl, rfl⟩ := g1
 rw [List.nil_append] at o4 o5
 have hsz := o6.size
 refine ⟨⟨fun y => J.F y \/ (w.heap.size <= y /\ y < w'.heap.size), R0, fun w'' => qis m bs (bx (st x l).2) (fun y => J.F y \/ (w.heap.size <= y /\ y < w'.heap.size)) w'' /\ qih m bs cs R0 w''⟩, rfl, ?_, ?_⟩
 ·exact ⟨rfl, fun j hj => Or.inl (hJF j hj), fun y hy h => h.elim (hJd y hy) fun q => by have := hR y (by rw [hJR]; exact hy); omega, rfl⟩
 ·refine ⟨?_, ⟨⟨vb', f2, t2, o1, zdw (fun p hp => by obtain ⟨b, hb, hp⟩ := List.mem_flatten.1 hp; exact ht _ b hb p hp) g2 (fun _ _ => rfl), o4, fun j hj hf => ?_, fun b hb => ?_⟩, ip.keep fun b hb => ?_⟩, fun y hy => ?_, fun y hy => by rw [hJR]; exact hy, ?_⟩
  ·exact JRb.good (X := X) (R0 := R0) (bs := bs) (cs := cs) hm ht (x := (st x l).2) ⟨rfl, fun j hj => Or.inl (hJF j hj), fun y hy h => h.elim (hJd y hy) fun q => by have := hR y (by rw [hJR]; exact hy); omega, rfl⟩
  ·rcases o5 _ hf with q | q
   ·exact i4 j hj q
   ·have := hF _ (hJF j hj); omega
  ·rcases o5 b hb with q | q
   ·exact Or.inl (i5 b q)
   ·refine Or.inr ⟨q, ?_⟩
    exact zl6 (fun p hp => by obtain ⟨b, hb, hp⟩ := List.mem_flatten.1 hp; exact ht _ b hb p hp) g2 b hb
  ·exact o6.block b (hp b (hR b (by rw [hJR]; exact hb)) (hJd b hb)).1
  ·rcases hy with q | q
   ·exact ⟨Or.inl q, Nat.lt_of_lt_of_le (hF y q) hsz⟩
   ·exact ⟨Or.inr q.1, q.2⟩
  ·exact ⟨o6.os, o6.tape, o6.output, o6.size, fun y hy => o6.block y (hp y hy.1 hy.2).1⟩
theorem zrm {w : World} {A : Nat -> Prop} : ∀ {ds : List D} {vs : List Value}, zaz w A ds vs -> zar w A (rd ds) vs [] []
 | [], _, h => ⟨h, rfl, rfl⟩
 | _ :: _, _, h => by obtain ⟨v, vs', rfl, h1, h2⟩ := h; exact ⟨v, vs', rfl, h1, zrm h2⟩
theorem zq7 {g : FuncId} {bx : X -> Bxs} {m : Nat} (hm : ∀ x, (bx x).length = m) (ht : ∀ x, ∀ b ∈ bx x, ∀ p ∈ b, p.1 = true) (cs : List (List T)) {js : List Nat} (hjs : ∀ j ∈ js, j < m + cs.length) {Inv : X -> Prop} {okl : List Tm -> Prop} {st : X -> List Tm -> Bool × X} (hcal : za1 Tryz.prog g)
  (hinv : ∀ x l, Inv x -> okl l -> (st x l).1 = true -> Inv (st x l).2) (HS : ∀ x l, Inv x -> okl l -> PC Tryz.prog g (bx x) (.d false (.one (tmS l)) :: js.map (qba m cs)) (bx (st x l).2) [(true, .one (.bool (st x l).1))])
  (ts : List Tm) (hts : ts.length <= 1048576) (n : Nat) (hn : n <= 1048576) (hok : ∀ l : List Tm, l.length = n -> (∀ t ∈ l, t ∈ ts) -> okl l) (x : X) (hx : Inv x) :
  PC Tryz.prog 95 (bx x ++ csB cs) [.d false (.one (tmS ts)), .d false (.one (.int .i64 n)), .fn g js] (bx (ze7 ts n st x).2 ++ csB cs) [(true, .one (.bool (ze7 ts n st x).1))] := by
 refine ⟨Tryz.call95, by rw [List.length_append, List.length_append, hm, hm], fun w bs bvs dvs fp tp A hinj hnf hB hG hnd hdl => ?_⟩
 have hlen : (bx x ++ csB cs).length = m + cs.length := by rw [List.length_append, hm]; simp [csB]
 rw [hlen] at hinj hnf hG ⊢
 obtain ⟨b1, b2, rfl, B1, B2⟩ := zeg.split hB
 obtain ⟨v1, v2, rfl⟩ : ∃ v1 v2, dvs = [v1, v2] := by
  match dvs, hdl with
  | [a, b], _ => exact ⟨a, b, rfl⟩
 obtain ⟨_, _, e1, r1, _, _, e2, r2, hG⟩ := hG
 simp only [List.cons_append, List.nil_append, List.cons.injEq] at e1
 obtain ⟨rfl, rfl⟩ := e1
 simp only [List.cons.injEq] at e2
 obtain ⟨rfl, rfl⟩ := e2
 rw [List.flatten_append, List.flatten_append, zcv] at hG
 replace hG : zar w _ (bxA (bx x).flatten ++ bxA (csB cs).flatten) (b1.flatten ++ b2.flatten) fp tp := hG
 obtain ⟨g1, g2, f1, f2, t1, t2, e3, rfl, rfl, hG1, hG2⟩ := hG.split
 obtain ⟨rfl, rfl⟩ : b1.flatten = g1 /\ b2.flatten = g2 := List.append_inj e3 (by rw [B1.flatLen, hG1.len, bxA, List.length_map])
 rw [zyk] at hG2
 obtain ⟨hC, rfl, rfl⟩ := zb1 hG2
 simp only [List.append_nil] at *
 generalize hA' : (fun k => (k < w.heap.size /\ k ∉ f1 /\ ∀ j, j < m + cs.length -> k ≠ bs j) /\ A k) = A' at *
 have hAe : ∀ k, A' k -> (k < w.heap.size /\ k ∉ f1 /\ ∀ j, j < m + cs.length -> k ≠ bs j) /\ A k := fun k hk => by rw [<- hA'] at hk; exact hk
 have hlt : ∀ j, j < m + cs.length -> bs j < w.heap.size := fun j hj => by have := hB.lt j (by rw [hlen]; exact hj); rwa [Nat.zero_add] at this
 have ho1 := zl6 (fun p hp => by obtain ⟨b, hb, hp⟩ := List.mem_flatten.1 hp; exact ht x b hb p hp) hG1
 rw [Nat.zero_add, hm] at B2
 have hcp := zn9 B2 hC
 have S := see_of hm ht hjs hcal hinv HS (bs := bs) (fun i j hi hj => hinj i j (by omega) (by omega)) (fun k => A' k \/ ∃ j, m <= j /\ j < m + cs.length /\ k = bs j)
 have hRd : ∀ y, (A' y \/ ∃ j, m <= j /\ j < m + cs.length /\ y = bs j) -> y < w.heap.size /\ ¬ (y ∈ f1 \/ ∃ j, j < m /\ y = bs j) := by
  rintro y (hy | ⟨j, h1, h2, rfl⟩)
  ·obtain ⟨⟨a1, a2, a3⟩, _⟩ := hAe y hy
   exact ⟨a1, fun q => q.elim a2 fun ⟨j, hj, e⟩ => a3 j (by omega) e⟩
  ·exact ⟨hlt j h2, fun q => q.elim (fun q => hnf j h2 q) fun ⟨i, hi, e⟩ => by have := hinj j i h2 (by omega) e; omega⟩
 have hJ : JRb m bs bx cs (fun k => A' k \/ ∃ j, m <= j /\ j < m + cs.length /\ k = bs j) x ⟨fun y => y ∈ f1 \/ ∃ j, j < m /\ y = bs j, fun k => A' k \/ ∃ j, m <= j /\ j < m + cs.length /\ k = bs j, fun w' => qis m bs (bx x) (fun y => y ∈ f1 \/ ∃ j, j < m /\ y = bs j) w' /\ qih m bs cs (fun k => A' k \/ ∃ j, m <= j /\ j < m + cs.length /\ k = bs j) w'⟩ := ⟨rfl, fun j hj => Or.inr ⟨j, hj, rfl⟩, fun y hy => (hRd y hy).2, rfl⟩
 have hI : qis m bs (bx x) (fun y => y ∈ f1 \/ ∃ j, j < m /\ y = bs j) w /\ qih m bs cs (fun k => A' k \/ ∃ j, m <= j /\ j < m + cs.length /\ k = bs j) w := by
  refine ⟨⟨b1, f1, t1, B1, zdw (fun p hp => by obtain ⟨b, hb, hp⟩ := List.mem_flatten.1 hp; exact ht x b hb p hp) hG1 (fun _ _ => rfl), hnd, fun j hj => hnf j (by omega), fun b hb => Or.inl hb⟩, fun i hi => ?_⟩
  obtain ⟨vs, ty, q1, q2⟩ := hcp i hi
  exact qik (fun b hb => Or.inl hb) (Or.inr ⟨m + i, by omega, by omega, rfl⟩) q1 q2
 have hF0 : ∀ y, (y ∈ f1 \/ ∃ j, j < m /\ y = bs j) -> y < w.heap.size /\ ¬ A' y := by
  rintro y (q | ⟨j, hj, rfl⟩)
  ·exact ⟨ho1 y q, fun hq => (hAe y hq).1.2.1 q⟩
  ·exact ⟨hlt j (by omega), fun hq => (hAe _ hq).1.2.2 j (by omega) rfl⟩
 have H := (zpz ts hts n hn S hok hJ hx).2 w [_, _, .func (.func g) #[] ⟨js.map fun j => zjz (bs j)⟩] A' (hJ.good hm ht) hI hF0 (fun y hy => (hRd y hy).1) ⟨_, _, rfl, zai.keep (fun _ _ => rfl) (fun b hb => ⟨(hAe b hb).1.1, hb⟩) _ _ r1, _, _, rfl, zai.keep (fun _ _ => rfl) (fun b hb => ⟨(hAe b hb).1.1, hb⟩) _ _ r2, _, _, rfl, by show zai _ _ _ _; unfold zai; rfl, rfl⟩
 refine H.mono ?_
 rintro e w' ⟨b, J', rfl, ⟨rfl, k1, k2, k3, k4⟩, kE⟩
 have hI' := kE.I
 rw [k4] at hI'
 obtain ⟨⟨vb, fp', tp', j1, j2, j3, j4, j5⟩, jp⟩ := hI'
 have hsame : ∀ y, y < w.heap.size -> ¬ (y ∈ f1 \/ ∃ j, j < m /\ y = bs j) -> w'.heap[y]? = w.heap[y]? := fun y h1 h2 => kE.bk.block y ⟨h1, h2⟩
 have hA2 : ∀ k, A' k -> (k < w'.heap.size /\ k ∉ fp' /\ ∀ j, j < m + cs.length -> k ≠ bs j) /\ (A k \/ w.heap.size <= k \/ k ∈ f1) := fun k hk => by
  obtain ⟨⟨a1, a2, a3⟩, a4⟩ := hAe k hk
  exact ⟨⟨Nat.lt_of_lt_of_le a1 kE.bk.size, fun q => k3 k (Or.inl hk) (j5 k q), a3⟩, Or.inl a4⟩
 refine ⟨[_], vb ++ b2, fp', tp', rfl, zeg.append j1 ?_, rfl, ?_, j3, fun b hb => ?_, ⟨kE.bk.os, kE.bk.tape, kE.bk.output, kE.bk.size, fun k hk => hsame k hk.1 fun q => q.elim hk.2.1 fun ⟨j, hj, e⟩ => hk.2.2 j (by omega) e⟩⟩
 ·rw [Nat.zero_add, hm]
  exact B2.keep fun i hi => hsame _ (hlt _ (by simp [csB] at hi; omega)) (hRd _ (Or.inr ⟨m + i, by omega, by simp [csB] at hi; omega, rfl⟩)).2
 ·rw [List.flatten_append, List.flatten_append, zcv, zyk]
  have q1 : zar w' (fun k => (k < w'.heap.size /\ k ∉ fp' /\ ∀ j, j < m + cs.length -> k ≠ bs j) /\ (A k \/ w.heap.size <= k \/ k ∈ f1)) (bxA (bx (ze7 ts n st x).2).flatten) vb.flatten fp' tp' := zdw (fun p hp => by obtain ⟨b, hb, hp⟩ := List.mem_flatten.1 hp; exact ht _ b hb p hp) j2 (fun _ _ => rfl)
  have q2 := q1.append (zrm (zaz.keep (fun b hb => hsame b (hAe b hb).1.1 (hRd b (Or.inl hb)).2) hA2 hC))
  rw [List.append_nil, List.append_nil] at q2
  exact ⟨_, _, [], fp', [], tp', rfl, rfl, rfl, ⟨by unfold zao; exact ⟨rfl, rfl⟩, rfl⟩, q2⟩
 ·rcases (kE.F b (j5 b hb)).1 with (q | ⟨j, hj, rfl⟩) | q
  ·exact Or.inl q
  ·exact absurd hb (j4 j hj)
  ·exact Or.inr q
end Go.Proofs.YtmhbmpbgpjljeaaGreat
namespace Go.Proofs.YtmhbmpbgpjljeaaGreat
set_option linter.unusedSimpArgs false
set_option linter.unusedVariables false
set_option linter.unusedSectionVars false
set_option maxRecDepth 4000
open Go.RowKit
theorem zr1.wkA {P : Program} {N : Nat} {c : Code} {σ σ' : St} {Q : Exit -> St -> Prop} (h : Wk σ σ') (k : zr1 P N c σ' Q) : zr1 P N c σ Q := fun n0 w0 A0 g a w h1 h2 h3 h4 => by
 obtain ⟨g', r1, r2, r3⟩ := h n0 N g a w h1
 exact k n0 w0 A0 g' a w r1 h2 h3 (by rw [r2, r3]; exact h4)
def clL (c : Cq) (ps : List (Str × Tm)) : List Li := c.lits.map fun l => ⟨l.pos, rvT ps l.atom⟩
end Go.Proofs.YtmhbmpbgpjljeaaGreat
namespace Go.Proofs.YtmhbmpbgpjljeaaGreat
set_option linter.unusedSimpArgs false
set_option linter.unusedVariables false
set_option linter.unusedSectionVars false
set_option maxRecDepth 4000
open Go.RowKit
section
variable {X : Type}
def zc7 (ts : List Tm) : Nat -> List (List Tm)
 | 0 => [[]]
 | n + 1 => (zc7 ts n).flatMap fun l => ts.map fun t => l ++ [t]
def runT (st : X -> List Tm -> Bool × X) : List (List Tm) -> X -> Bool × X
 | [], x => (true, x)
 | l :: ls, x => if (st x l).1 = true then runT st ls (st x l).2 else (false, (st x l).2)
theorem zog (st : X -> List Tm -> Bool × X) : ∀ (ts : List Tm) (x : X) (l : List Tm), zeb st ts x l = runT st (ts.map fun t => l ++ [t]) x
 | [], _, _ => rfl
 | t :: ts, x, l => by rw [zeb, List.map_cons, runT, zog st ts]
theorem zir (st : X -> List Tm -> Bool × X) : ∀ (a b : List (List Tm)) (x : X), runT st (a ++ b) x = if (runT st a x).1 = true then runT st b (runT st a x).2 else (false, (runT st a x).2)
 | [], b, x => rfl
 | l :: a, b, x => by
  rw [List.cons_append, runT, runT]
  by_cases h : (st x l).1 = true
  ·rw [if_pos h, if_pos h]; exact zir st a b _
  ·rw [if_neg h, if_neg h]; rfl
theorem zo9 (st : X -> List Tm -> Bool × X) (ts : List Tm) : ∀ (ls : List (List Tm)) (x : X), runT (zeb st ts) ls x = runT st (ls.flatMap fun l => ts.map fun t => l ++ [t]) x
 | [], _ => rfl
 | l :: ls, x => by
  rw [runT, List.flatMap_cons, zir, zog, zo9 st ts ls]
theorem zn2 (ts : List Tm) : ∀ (n : Nat) (st : X -> List Tm -> Bool × X) (x : X), ze7 ts n st x = runT st (zc7 ts n) x
 | 0, st, x => by
  rw [ze7, zc7, runT, runT]
  by_cases h : (st x []).1 = true
  ·rw [if_pos h]; exact Prod.ext h rfl
  ·rw [if_neg h]; exact Prod.ext (by simpa using h) rfl
 | n + 1, st, x => by rw [ze7, zn2 ts n, zo9]; rfl
end
theorem zdy (ts : List Tm) : ∀ (n : Nat) (l : List Tm), l ∈ zc7 ts n ↔ l.length = n /\ ∀ t ∈ l, t ∈ ts
 | 0, l => by
  simp only [zc7, List.mem_singleton]
  exact ⟨fun h => by subst h; exact ⟨rfl, by simp⟩, fun h => List.eq_nil_of_length_eq_zero h.1⟩
 | n + 1, l => by
  simp only [zc7, List.mem_flatMap, List.mem_map]
  constructor
  ·rintro ⟨a, ha, t, ht, rfl⟩
   obtain ⟨h1, h2⟩ := (zdy ts n a).1 ha
   refine ⟨by simp [h1], fun u hu => ?_⟩
   rcases List.mem_append.1 hu with hu | hu
   ·exact h2 u hu
   ·rw [List.mem_singleton.1 hu]; exact ht
  ·rintro ⟨h1, h2⟩
   have hne : l ≠ [] := fun h => by rw [h] at h1; cases h1
   refine ⟨l.dropLast, (zdy ts n _).2 ⟨by simp [h1], fun t ht => h2 t ((List.dropLast_sublist l).subset ht)⟩, l.getLast hne, h2 _ (List.getLast_mem hne), List.dropLast_concat_getLast hne⟩
theorem ztl (ts : List Tm) : ∀ n : Nat, (zc7 ts n).length = ts.length ^ n
 | 0 => rfl
 | n + 1 => by
  have : ∀ L : List (List Tm), (L.flatMap fun l => ts.map fun t => l ++ [t]).length = L.length * ts.length := by
   intro L
   induction L with
   | nil => simp
   | cons l L ih => rw [List.flatMap_cons, List.length_append, ih, List.length_map, List.length_cons, Nat.add_mul]; omega
  rw [zc7, this, ztl ts n, Nat.pow_succ]
noncomputable def putC (x : List Cq) (q : Cq) : List Cq := if (x.any fun a => same a q) = true then x else x ++ [q]
def qil (c : Cq) (ns : List Str) (ts : List Tm) (x : List Cq) : Prop := x.Nodup /\ ∀ q ∈ x, q ∈ (zc7 ts ns.length).map fun l => mkC (clL c (ns.zip l))
theorem qil.put {c : Cq} {ns : List Str} {ts : List Tm} {x : List Cq} (h : qil c ns ts x) {l : List Tm} (hl : l ∈ zc7 ts ns.length) : qil c ns ts (putC x (mkC (clL c (ns.zip l)))) := by
 unfold putC
 split
 ·exact h
 ·rename_i ha
  have ha : ∀ a ∈ x, a ≠ mkC (clL c (ns.zip l)) := fun a hm e => ha (List.any_eq_true.2 ⟨a, hm, zbw.2 e⟩)
  refine ⟨List.nodup_append.2 ⟨h.1, by simp, fun a hm b hb => by rw [List.mem_singleton.1 hb]; exact ha a hm⟩, fun q hq => ?_⟩
  rcases List.mem_append.1 hq with hq | hq
  ·exact h.2 q hq
  ·rw [List.mem_singleton.1 hq]; exact List.mem_map.2 ⟨l, hl, rfl⟩
end Go.Proofs.YtmhbmpbgpjljeaaGreat
namespace Go.Proofs.YtmhbmpbgpjljeaaGreat
set_option linter.unusedSimpArgs false
set_option linter.unusedVariables false
set_option linter.unusedSectionVars false
set_option maxRecDepth 4000
open Go.RowKit
theorem Wk.fsO {σ σ' : St} (e : Nat) (k : zan (σ.ev e) fun x => x.deep = false /\ x.on = true /\ Wk (σ.fs e x) σ') : Wk σ σ' := by
 obtain ⟨x, hx, h1, h2, h3⟩ := zal k
 exact (fs_wk hx h1 h2).trans h3
end Go.Proofs.YtmhbmpbgpjljeaaGreat
namespace Go.Proofs.YtmhbmpbgpjljeaaGreat
set_option linter.unusedSimpArgs false
set_option linter.unusedVariables false
set_option linter.unusedSectionVars false
set_option maxRecDepth 4000
open Go.RowKit
section
variable {α β : Type}
def zj4 (xs : List α) : Nat -> List (List α)
 | 0 => [[]]
 | n + 1 => (zj4 xs n).flatMap fun l => xs.map fun t => l ++ [t]
theorem zlc (f : α -> β) (xs : List α) : ∀ n, zj4 (xs.map f) n = (zj4 xs n).map (List.map f)
 | 0 => rfl
 | n + 1 => by
  rw [zj4, zj4, zlc f xs n, List.flatMap_map, List.map_flatMap]
  congr 1
  funext l
  rw [List.map_map, List.map_map]
  congr 1
  funext t
  simp
theorem ztm (xs : List α) : ∀ n : Nat, (zj4 xs n).length = xs.length ^ n
 | 0 => rfl
 | n + 1 => by
  have : ∀ L : List (List α), (L.flatMap fun l => xs.map fun t => l ++ [t]).length = L.length * xs.length := by
   intro L
   induction L with
   | nil => simp
   | cons l L ih => rw [List.flatMap_cons, List.length_append, ih, List.length_map, List.length_cons, Nat.add_mul]; omega
  rw [zj4, this, ztm xs n, Nat.pow_succ]
theorem zq5 (xs : List α) : ∀ n, ∀ l ∈ zj4 xs n, l.length = n /\ ∀ t ∈ l, t ∈ xs
 | 0, l, h => by
  rw [zj4, List.mem_singleton] at h
  subst h
  exact ⟨rfl, by simp⟩
 | n + 1, l, h => by
  rw [zj4, List.mem_flatMap] at h
  obtain ⟨a, ha, h⟩ := h
  obtain ⟨t, ht, rfl⟩ := List.mem_map.1 h
  obtain ⟨h1, h2⟩ := zq5 xs n a ha
  refine ⟨by simp [h1], fun u hu => ?_⟩
  rcases List.mem_append.1 hu with hu | hu
  ·exact h2 u hu
  ·rw [List.mem_singleton.1 hu]; exact ht
end
abbrev rwS (L : List (List (List T))) : T := .sl 1 (L.map fun l => [.sl 2 l])
theorem qal {α β : Type} (f : α -> List β) (L : List α) (k : Nat) (h : k < L.length) : ((L.take (k + 1)).flatMap f) = (L.take k).flatMap f ++ f L[k] := by
 rw [List.take_succ_eq_append_getElem h, List.flatMap_append]; simp
theorem zsd {w : World} {A : Nat -> Prop} : ∀ {zl : List (List T × Tm)}, (∀ z ∈ zl, zjp w A z.1 z.2) -> zbp w A (zl.map (·.1)) (zl.map (·.2))
 | [], _ => rfl
 | z :: zl, h => ⟨z.2, _, rfl, h z (by simp), zsd fun q hq => h q (by simp [hq])⟩
theorem zbp.zip {w : World} {A : Nat -> Prop} : ∀ {rs : List (List T)} {ts : List Tm}, zbp w A rs ts -> ∀ z ∈ rs.zip ts, zjp w A z.1 z.2
 | [], _, _, z, hz => by simp at hz
 | _ :: _, _, h, z, hz => by
  obtain ⟨t, ts, rfl, h1, h2⟩ := h
  rcases List.mem_cons.1 hz with rfl | hz
  ·exact h1
  ·exact zbp.zip h2 z hz
theorem zo1 {w : World} {A : Nat -> Prop} {b : Nat} : ∀ (L : List (List (List T × Tm))) (o : Nat), (∀ zl ∈ L, ∀ z ∈ zl, zjp w A z.1 z.2) -> zaj w A b o 1 (L.map fun zl => [.sl 2 (zl.map (·.1))]) -> zaj w A b o 1 (L.map fun zl => [tmS (zl.map (·.2))])
 | [], o, _, _ => by unfold zaj; trivial
 | zl :: L, o, hz, h => by
  rw [List.map_cons, zaj] at h ⊢
  obtain ⟨_, ⟨⟨v, h1, h2⟩, _⟩, h3⟩ := h
  exact ⟨rfl, ⟨⟨v, h1, zai.deepL (fun _ q => q) (fun _ q => q) h2 (zsd (hz zl (by simp)))⟩, trivial⟩, zo1 L (o + 1) (fun q hq => hz q (by simp [hq])) h3⟩
abbrev tmLL (xs : List (List Tm)) : T := .sl 1 (xs.map fun s => [tmS s])
end Go.Proofs.YtmhbmpbgpjljeaaGreat
namespace Go.Proofs.YtmhbmpbgpjljeaaGreat
set_option linter.unusedSimpArgs false
set_option linter.unusedVariables false
set_option linter.unusedSectionVars false
set_option maxRecDepth 4000
open Go.RowKit
theorem zzz (ts : List Tm) : ∀ n, zc7 ts n = zj4 ts n
 | 0 => rfl
 | n + 1 => by rw [zc7, zj4, zzz ts n]
end Go.Proofs.YtmhbmpbgpjljeaaGreat
namespace Go.Proofs.YtmhbmpbgpjljeaaGreat
set_option linter.unusedSimpArgs false
set_option linter.unusedVariables false
set_option linter.unusedSectionVars false
set_option maxRecDepth 4000
open Go.RowKit
def zg8 : Li -> Nat -> Li × Nat
 | ⟨b0, .mk n0 s0⟩, k => (⟨((((k : Nat) : Int).tmod 3) == 0), .mk (mtx (k + 1)) (za8 s0 ((k + 1) + 1)).1⟩, (za8 s0 ((k + 1) + 1)).2)
def zdh : List Li -> Nat -> List Li × Nat
 | [], k => ([], k)
 | a :: xs, k => ((zg8 a k).1 :: (zdh xs (zg8 a k).2).1, (zdh xs (zg8 a k).2).2)
def zi9 : Li -> Nat
 | ⟨b0, .mk n0 s0⟩ => 1 + 1 + 1 + zch s0
def zgw : List Li -> Nat
 | [] => 0
 | a :: xs => zi9 a + zgw xs
theorem qam : ∀ (a : Li) (k : Nat), k <= (zg8 a k).2 /\ (zg8 a k).2 <= k + zi9 a
 | ⟨b0, .mk n0 s0⟩, k => by have h_s0 := zd4 s0 ((k + 1) + 1); simp only [zg8, zi9]; omega
theorem zlw : ∀ (xs : List Li) (k : Nat), k <= (zdh xs k).2 /\ (zdh xs k).2 <= k + zgw xs
 | [], k => ⟨Nat.le_refl _, Nat.le_refl _⟩
 | a :: xs, k => by have h1 := qam a k; have h2 := zlw xs (zg8 a k).2; simp only [zdh, zgw]; omega
theorem zo8 : ∀ xs : List Li, xs.length <= zgw xs
 | [] => Nat.le_refl _
 | a :: xs => by
  have := zo8 xs
  have : 1 <= zi9 a := by obtain ⟨b0, ⟨n0, s0⟩⟩ := a; simp only [zi9]; omega
  simp only [List.length_cons, zgw]; omega
theorem zjd (xs : List Li) :
  ∀ k : Nat, 0 < k -> k + zgw xs <= 4611686018427387904 -> IC Tryz.prog 34 [] (.one (liS xs)) [iD k] (.one (liS (zdh xs k).1)) [iD (zdh xs k).2] := by
 intro k h0 hk
 refine qab Tryz.call34 Tryz.func34 rfl (by kernel_rfl) (by simp only [ze9, rd, List.map_cons, List.map_nil, List.nil_append, List.length_cons, List.length_nil, Tryz.ntmps34]; omega) (by simp only [Tryz.ntmps34]; omega) (fun vs => ?_)
 simp -implicitDefEqProofs only [go_sem, Tryz.results34, qd9, zva, ze9, PI]
 refine zaf (fun (x : List Li × List Li × Nat) => hd [(0, .one (.ow 0 0)), (1000000, .one (.ow 0 0)), (1, vI x.2.2), (5, vI x.1.length)] [] [(0, ⟨true, 3, x.1.map liC ++ zfa vs x.1.length (x.2.1.map liC), 0, true⟩)])
  (fun x => (zdh xs k).1 = x.1 ++ (zdh x.2.1 x.2.2).1 /\ (zdh xs k).2 = (zdh x.2.1 x.2.2).2 /\ 0 < x.2.2 /\ x.2.2 + zgw x.2.1 <= 4611686018427387904 /\ x.1.length + x.2.1.length = xs.length /\ ∀ a ∈ x.2.1, a ∈ xs) (fun x => x.2.1.length) ([], xs, k) (zaa ?_) ?_ ?_
 ·simp -implicitDefEqProofs only [go_sem]
 ·exact ⟨rfl, rfl, h0, hk, by simp, fun _ h => h⟩
 ·intro ⟨dn, rest, kk⟩ ⟨h1, h2, h3, h4, h6, h5⟩
  simp only at h1 h2 h3 h4 h5 h6
  cases rest with
  | nil =>
   simp only [zdh, List.append_nil] at h1 h2
   simp -implicitDefEqProofs only [go_sem, h1, h2]
  | cons a rest =>
   obtain ⟨b0, ⟨n0, s0⟩⟩ := a
   simp only [zdh, zg8, zgw, zi9] at h1 h2 h4
   have hc_s0 := zd4 s0 ((kk + 1) + 1)
   have w0 : IntKind.i64.wrap (((kk : Nat) : Int) + 1) = ((kk + 1 : Nat) : Int) := zam (by omega)
   have m1 : (((kk : Nat) : Int)).tmod 3 = ((kk % 3 : Nat) : Int) := by rw [Int.tmod_eq_emod_of_nonneg (by omega)]; omega
   have w1 : IntKind.i64.wrap ((((kk + 1) : Nat) : Int) + 1) = (((kk + 1) + 1 : Nat) : Int) := zam (by omega)
   have hln := zo8 xs
   rw [List.length_cons] at h6
   have wl : IntKind.i64.wrap ((dn.length : Int) + 1) = ((dn.length + 1 : Nat) : Int) := zam (by omega)
   simp -implicitDefEqProofs only [go_sem, zap, Tm.name, Tm.args]
   refine ⟨by omega, ?_⟩
   refine zhp (by simp -implicitDefEqProofs only [go_sem, implies_true, w0, w1]) ?_
   simp -implicitDefEqProofs only [go_sem, implies_true, w0, w1]
   refine callF (zg3 (kk + 1) (by omega) (by omega)) (by simp -implicitDefEqProofs only [go_sem, w0, w1]) ?_
   simp -implicitDefEqProofs only [go_sem, w0, w1]
   refine zhp (by simp -implicitDefEqProofs only [go_sem, implies_true, w0, w1]) ?_
   simp -implicitDefEqProofs only [go_sem, implies_true, w0, w1]
   refine callN (l := [(0, .one (.ow 0 0)), (1000000, .one (.ow 0 0)), (5, vI dn.length), (35, .one (.cv (vs dn.length 2))), (36, vI (((kk + 1) + 1) : Nat))]) (bl := []) (el := [(0, ⟨true, 3, dn.map liC ++ [.bool ((((kk : Nat) : Int).tmod 3) == 0), .str (mtx (kk + 1)), .pin (vs dn.length 2) (tmS s0)] :: zfa vs (dn.length + 1) (rest.map liC), 0, true⟩)]) 0 dn.length 2 (ziu s0 ((kk + 1) + 1) (by omega) (by omega)) (by simp -implicitDefEqProofs only [go_sem, w0, w1, tmS]) rfl rfl rfl (by simp -implicitDefEqProofs only [go_sem, tmS, Tm.name, Tm.args]) rfl ?_
   simp -implicitDefEqProofs only [go_sem, w0, w1, Tm.name, Tm.args]
   refine ⟨(dn ++ [⟨((((kk : Nat) : Int).tmod 3) == 0), .mk (mtx (kk + 1)) (za8 s0 ((kk + 1) + 1)).1⟩], rest, (za8 s0 ((kk + 1) + 1)).2), ⟨by simpa using h1, h2, by show 0 < (za8 s0 ((kk + 1) + 1)).2; omega, by show (za8 s0 ((kk + 1) + 1)).2 + zgw rest <= _; omega, by simp; omega, fun b hb => h5 b (by simp [hb])⟩, by simp, zaa ?_⟩
   simp -implicitDefEqProofs only [go_sem, wl, zap, Tm.name, Tm.args, List.map_append, List.append_assoc]
theorem zj2 (xs : List Li) (k : Nat) (h0 : 0 < k) (hk : k + zgw xs <= 4611686018427387904) : IC Tryz.prog 34 [] (.one (liS xs)) [iD k] (.one (liS (zdh xs k).1)) [iD (zdh xs k).2] := zjd xs k h0 hk
def zhi : Cq -> Nat -> Cq × Nat
 | ⟨l0⟩, k => (⟨(zdh l0 k).1⟩, (zdh l0 k).2)
def zeq : List Cq -> Nat -> List Cq × Nat
 | [], k => ([], k)
 | a :: xs, k => ((zhi a k).1 :: (zeq xs (zhi a k).2).1, (zeq xs (zhi a k).2).2)
def zio : Cq -> Nat
 | ⟨l0⟩ => 1 + zgw l0
def zhs : List Cq -> Nat
 | [] => 0
 | a :: xs => zio a + zhs xs
theorem zyi : ∀ (a : Cq) (k : Nat), k <= (zhi a k).2 /\ (zhi a k).2 <= k + zio a
 | ⟨l0⟩, k => by have h_l0 := zlw l0 k; simp only [zhi, zio]; omega
theorem zrj : ∀ (xs : List Cq) (k : Nat), k <= (zeq xs k).2 /\ (zeq xs k).2 <= k + zhs xs
 | [], k => ⟨Nat.le_refl _, Nat.le_refl _⟩
 | a :: xs, k => by have h1 := zyi a k; have h2 := zrj xs (zhi a k).2; simp only [zeq, zhs]; omega
theorem znd : ∀ xs : List Cq, xs.length <= zhs xs
 | [] => Nat.le_refl _
 | a :: xs => by
  have := znd xs
  have : 1 <= zio a := by obtain ⟨l0⟩ := a; simp only [zio]; omega
  simp only [List.length_cons, zhs]; omega
theorem zj6 (xs : List Cq) :
  ∀ k : Nat, 0 < k -> k + zhs xs <= 4611686018427387904 -> IC Tryz.prog 11 [] (.one (cqS xs)) [iD k] (.one (cqS (zeq xs k).1)) [iD (zeq xs k).2] := by
 intro k h0 hk
 refine qab Tryz.call11 Tryz.func11 rfl (by kernel_rfl) (by simp only [ze9, rd, List.map_cons, List.map_nil, List.nil_append, List.length_cons, List.length_nil, Tryz.ntmps11]; omega) (by simp only [Tryz.ntmps11]; omega) (fun vs => ?_)
 simp -implicitDefEqProofs only [go_sem, Tryz.results11, qd9, zva, ze9, PI]
 refine zaf (fun (x : List Cq × List Cq × Nat) => hd [(0, .one (.ow 0 0)), (1000000, .one (.ow 0 0)), (1, vI x.2.2), (5, vI x.1.length)] [] [(0, ⟨true, 1, x.1.map cqC ++ zfa vs x.1.length (x.2.1.map cqC), 0, true⟩)])
  (fun x => (zeq xs k).1 = x.1 ++ (zeq x.2.1 x.2.2).1 /\ (zeq xs k).2 = (zeq x.2.1 x.2.2).2 /\ 0 < x.2.2 /\ x.2.2 + zhs x.2.1 <= 4611686018427387904 /\ x.1.length + x.2.1.length = xs.length /\ ∀ a ∈ x.2.1, a ∈ xs) (fun x => x.2.1.length) ([], xs, k) (zaa ?_) ?_ ?_
 ·simp -implicitDefEqProofs only [go_sem]
 ·exact ⟨rfl, rfl, h0, hk, by simp, fun _ h => h⟩
 ·intro ⟨dn, rest, kk⟩ ⟨h1, h2, h3, h4, h6, h5⟩
  simp only at h1 h2 h3 h4 h5 h6
  cases rest with
  | nil =>
   simp only [zeq, List.append_nil] at h1 h2
   simp -implicitDefEqProofs only [go_sem, h1, h2]
  | cons a rest =>
   obtain ⟨l0⟩ := a
   simp only [zeq, zhi, zhs, zio] at h1 h2 h4
   have hc_l0 := zlw l0 kk
   have hln := znd xs
   rw [List.length_cons] at h6
   have wl : IntKind.i64.wrap ((dn.length : Int) + 1) = ((dn.length + 1 : Nat) : Int) := zam (by omega)
   simp -implicitDefEqProofs only [go_sem, za9]
   refine callN (l := [(0, .one (.ow 0 0)), (1000000, .one (.ow 0 0)), (5, vI dn.length), (16, .one (.cv (vs dn.length 0))), (17, vI (kk : Nat))]) (bl := []) (el := [(0, ⟨true, 1, dn.map cqC ++ [.pin (vs dn.length 0) (liS l0)] :: zfa vs (dn.length + 1) (rest.map cqC), 0, true⟩)]) 0 dn.length 0 (zj2 l0 kk (by omega) (by omega)) (by simp -implicitDefEqProofs only [go_sem, liS]) rfl rfl rfl (by simp -implicitDefEqProofs only [go_sem, liS]) rfl ?_
   simp -implicitDefEqProofs only [go_sem, wl]
   refine ⟨(dn ++ [⟨(zdh l0 kk).1⟩], rest, (zdh l0 kk).2), ⟨by simpa using h1, h2, by show 0 < (zdh l0 kk).2; omega, by show (zdh l0 kk).2 + zhs rest <= _; omega, by simp; omega, fun b hb => h5 b (by simp [hb])⟩, by simp, zaa ?_⟩
   simp -implicitDefEqProofs only [go_sem, wl, za9, List.map_append, List.append_assoc]
theorem zlz (xs : List Cq) (k : Nat) (h0 : 0 < k) (hk : k + zhs xs <= 4611686018427387904) : IC Tryz.prog 11 [] (.one (cqS xs)) [iD k] (.one (cqS (zeq xs k).1)) [iD (zeq xs k).2] := zj6 xs k h0 hk
end Go.Proofs.YtmhbmpbgpjljeaaGreat
namespace Go.Proofs.YtmhbmpbgpjljeaaGreat
set_option linter.unusedSimpArgs false
set_option linter.unusedVariables false
set_option linter.unusedSectionVars false
set_option maxRecDepth 4000
open Go.RowKit
theorem zsk : ∀ xs : List Li, zgw xs <= 3 * zm2 xs
 | [] => Nat.zero_le _
 | a :: xs => by
  obtain ⟨b, n, s⟩ := a
  have h1 := zsk xs
  have h2 := zib s
  have h3 : (Li.mk b (.mk n s)).wt = (Tm.mk n s).wt := rfl
  have h4 := Tm.wt_eq (.mk n s)
  simp only [Tm.name, Tm.args] at h4
  unfold zm2 at h1 ⊢
  unfold zms at h2
  rw [zgw, zi9, List.length_cons, List.map_cons, List.sum_cons]
  omega
theorem zrh : ∀ xs : List Cq, zhs xs <= 3 * znb xs
 | [] => Nat.zero_le _
 | a :: xs => by
  obtain ⟨l⟩ := a
  have h1 := zrh xs
  have h2 := zsk l
  have h3 : (Cq.mk l).wt = zm2 l := rfl
  unfold znb at h1 ⊢
  rw [zhs, zio, List.length_cons, List.map_cons, List.sum_cons]
  omega
theorem qfb {α : Type} (f : α -> Nat) (B : Nat) : ∀ xs : List α, (∀ x ∈ xs, f x <= B) -> (xs.map f).sum <= xs.length * B
 | [], _ => by simp
 | a :: xs, h => by
  have h1 := qfb f B xs fun x hx => h x (by simp [hx])
  have h2 := h a (by simp)
  rw [List.map_cons, List.sum_cons, List.length_cons, Nat.add_mul]
  omega
end Go.Proofs.YtmhbmpbgpjljeaaGreat
namespace Go.Proofs.YtmhbmpbgpjljeaaGreat
set_option linter.unusedSimpArgs false
set_option linter.unusedVariables false
set_option linter.unusedSectionVars false
set_option maxRecDepth 4000
open Go.RowKit
structure Tb where
 name : Str
 ar : Int
 pred : Bool
def tbC (t : Tb) : List T := [.str t.name, .int .i64 t.ar, .bool t.pred, .vs none 0 0]
theorem zat (t : Tb) : tbC t = [.str t.name, .int .i64 t.ar, .bool t.pred, .vs none 0 0] := rfl
abbrev tbD (t : Tb) : D := .agg (tbC t)
abbrev tbS (ts : List Tb) : T := .sl 4 (ts.map tbC)
end Go.Proofs.YtmhbmpbgpjljeaaGreat
namespace Go.Proofs.YtmhbmpbgpjljeaaGreat
set_option linter.unusedSimpArgs false
set_option linter.unusedVariables false
set_option linter.unusedSectionVars false
set_option maxRecDepth 4000
open Go.RowKit
def zeo (a b : Tb) : Int := orE (zjy a.name b.name) (zj3 a.ar b.ar)
theorem zeu (a b : Tb) : FC Tryz.prog 155 [tbD a, tbD b] [iD (zeo a b)] := by
 have HS := ztj a.name b.name
 have HI := zmc a.ar b.ar
 have HO := zpx (zjy a.name b.name) (zj3 a.ar b.ar)
 unfold zeo
 generalize zjy a.name b.name = x at HS HO ⊢
 generalize zj3 a.ar b.ar = y at HI HO ⊢
 simp only [tbD, zat]
 refine zau Tryz.call155 Tryz.func155 rfl (by kernel_rfl) (za6 (by kernel_rfl)) ?_
 simp -implicitDefEqProofs only [go_sem, Tryz.results155]
 refine drawn (by kernel_rfl) ?_
 simp -implicitDefEqProofs only [go_sem]
 refine zay (HS) (by simp -implicitDefEqProofs only [go_sem]) ?_
 simp -implicitDefEqProofs only [go_sem]
 refine zay (HI) (by simp -implicitDefEqProofs only [go_sem]) ?_
 simp -implicitDefEqProofs only [go_sem]
 refine zmr (by simp -implicitDefEqProofs only [go_sem]) ?_
 simp -implicitDefEqProofs only [go_sem]
 refine zay (HO) (by simp -implicitDefEqProofs only [go_sem]) ?_
 simp -implicitDefEqProofs only [go_sem]
 kernel_rfl
end Go.Proofs.YtmhbmpbgpjljeaaGreat
namespace Go.Proofs.YtmhbmpbgpjljeaaGreat
set_option linter.unusedSimpArgs false
set_option linter.unusedVariables false
set_option linter.unusedSectionVars false
set_option maxRecDepth 4000
open Go.RowKit
set_option maxHeartbeats 1000000 in
theorem zu7 (ts : List Tb) (t : Tb) (hl : ts.length <= 1048576) (p : Nat) (hp : p <= ts.length) (h1 : ∀ k (h : k < ts.length), k < p -> zeo ts[k] t < 0) (h2 : ∀ k (h : k < ts.length), p <= k -> ¬ zeo ts[k] t < 0) :
  FC Tryz.prog 154 [.one (tbS ts), tbD t, .one (.fn 155 [])] [iD p, bD (if h : p < ts.length then zeo ts[p] t == 0 else false)] := by
 simp only [tbD, zat t]
 refine zau Tryz.call154 Tryz.func154 rfl (by kernel_rfl) (za6 (by kernel_rfl)) ?_
 simp -implicitDefEqProofs only [go_sem, Tryz.results154]
 refine zaf (fun z : Nat × Nat => hd [(0, vT (tbS ts)), (2, vT (.fn 155 [])), (4, .one (.bx 4 0)), (8, vI ts.length), (9, vI z.1), (10, vI z.2)] [(4, [.t (.str t.name), .t (.int .i64 t.ar), .t (.bool t.pred), .t (.vs none 0 0)])] []) (fun z => z.1 <= p /\ p <= z.2 /\ z.2 <= ts.length) (fun z => z.2 - z.1) (0, ts.length) (zaa ?_) ⟨Nat.zero_le _, hp, Nat.le_refl _⟩ ?_
 ·simp -implicitDefEqProofs only [go_sem]
 ·rintro ⟨i, j⟩ ⟨hi, hj, hjn⟩
  simp only at hi hj hjn ⊢
  by_cases hij : i < j
  ·have hij' : ((i : Int) < (j : Int)) = True := eq_true (by omega)
   have e1 : IntKind.i64.wrap ((i : Int) + (j : Int)) = ((i + j : Nat) : Int) := by rw [zbb (by omega) (by omega)]; omega
   have e2 : IntKind.u64.wrap ((i + j : Nat) : Int) = ((i + j : Nat) : Int) := by
    simp only [IntKind.wrap, IntKind.signed, IntKind.bits]
    simp
    omega
   have e3 : (((i + j : Nat) : Int)).fdiv (2 ^ min 1 64) = (((i + j) / 2 : Nat) : Int) := by
    rw [show (2 : Int) ^ min 1 64 = 2 from rfl, Int.fdiv_eq_ediv_of_nonneg _ (by omega)]
    omega
   have e4 : IntKind.i64.wrap (((i + j) / 2 : Nat) : Int) = (((i + j) / 2 : Nat) : Int) := zbb (by omega) (by omega)
   have hm : (i + j) / 2 < ts.length := by omega
   have hm1 : i <= (i + j) / 2 := by omega
   have hm2 : (i + j) / 2 < j := by omega
   generalize hmd : (i + j) / 2 = m at *
   have hr1 : (0 <= (m : Int)) = True := eq_true (by omega)
   have hr2 : ((m : Int) <= 18446744073709551615) = True := eq_true (by omega)
   have HC := zeu ts[m] t
   simp only [tbD, zat ts[m], zat t] at HC
   have hw1 : IntKind.i64.wrap ((m : Int) + 1) = ((m + 1 : Nat) : Int) := zam (by omega)
   have k1 := h1 m hm
   have k2 := h2 m hm
   generalize zeo ts[m] t = cc at HC k1 k2
   simp -implicitDefEqProofs only [go_sem, hij', e1, e2, e3, e4, hr1, hr2]
   refine drawn (by kernel_rfl) ?_
   simp -implicitDefEqProofs only [go_sem, zad, hm, zat ts[m]]
   refine zay (HC) (by simp -implicitDefEqProofs only [go_sem]) ?_
   simp -implicitDefEqProofs only [go_sem]
   refine ⟨by kernel_rfl, fun h => ?_, fun h => ?_⟩
   ·have hc : cc < 0 := by simpa using h
    refine ⟨(m + 1, j), ⟨by simp only; have := k2; omega, hj, hjn⟩, by simp only; omega, zaa ?_⟩
    simp -implicitDefEqProofs only [go_sem]
    rw [hw1]
   ·have hc : ¬ cc < 0 := by simpa using h
    refine ⟨(i, m), ⟨hi, by simp only; have := k1; omega, by simp only; omega⟩, by simp only; omega, zaa ?_⟩
    simp -implicitDefEqProofs only [go_sem]
  ·have hij' : ((i : Int) < (j : Int)) = False := eq_false (by omega)
   have hip : i = p := by omega
   subst hip
   simp -implicitDefEqProofs only [go_sem, hij']
   refine drawn (by kernel_rfl) ?_
   by_cases hlt : i < ts.length
   ·have HC := zeu ts[i] t
    simp only [tbD, zat ts[i], zat t] at HC
    rw [dif_pos hlt]
    simp -implicitDefEqProofs only [go_sem, hlt, zad, zat ts[i]]
    refine zov (HC) (by simp -implicitDefEqProofs only [go_sem]) ?_
    simp -implicitDefEqProofs only [go_sem]
    kernel_rfl
   ·rw [dif_neg hlt]
    simp -implicitDefEqProofs only [go_sem, hlt]
    kernel_rfl
end Go.Proofs.YtmhbmpbgpjljeaaGreat
