/-
  The walk over plain data, and contracts of functions of the program and of its laws.
  Conditions: those that each theorem names.
-/
import Derived.Test.YtaaniggpnljckaaGreatQM4
import Derived.Sort.OwnSorted
import Derived.Sort.KeysCollected
import Derived.Sort.Walk0
import Derived.Laws.AppendOwn
import Derived.MapKept
import Derived.Lib.SliceRun
import Derived.Deep.LoopGhost
namespace Go.Proofs.YtaaniggpnljckaaGreat
set_option linter.unusedSimpArgs false
set_option linter.unusedVariables false
set_option linter.unusedSectionVars false
set_option maxRecDepth 4000
open Go.RowKit
def zd7 (b : UInt8) : Bool := decide (97 <= (b.toNat : Int)) && decide ((b.toNat : Int) <= 122)
def qdj (b : UInt8) : Bool := decide (48 <= (b.toNat : Int)) && decide ((b.toNat : Int) <= 57)
def ziz (b : UInt8) : Bool := decide (65 <= (b.toNat : Int)) && decide ((b.toNat : Int) <= 90)
def zkq (b : UInt8) : Bool := zd7 b || qdj b
abbrev uD (b : UInt8) : D := .one (.int .u8 b.toNat)
theorem zf5 (b : UInt8) : FC Tryz.prog 79 [uD b] [bD (zd7 b)] := by
 unfold zd7
 refine zan Tryz.call79 Tryz.func79 rfl (by kernel_rfl) (za2 (by kernel_rfl)) ?_
 simp -implicitDefEqProofs only [go_sem, Tryz.results79]
 refine ⟨fun h => ?_, fun h => ?_⟩ <;> simp at h ⊢ <;> omega
theorem znl (b : UInt8) : FC Tryz.prog 80 [uD b] [bD (qdj b)] := by
 unfold qdj
 refine zan Tryz.call80 Tryz.func80 rfl (by kernel_rfl) (za2 (by kernel_rfl)) ?_
 simp -implicitDefEqProofs only [go_sem, Tryz.results80]
 refine ⟨fun h => ?_, fun h => ?_⟩ <;> simp at h ⊢ <;> omega
theorem zl0 (b : UInt8) : FC Tryz.prog 95 [uD b] [bD (ziz b)] := by
 unfold ziz
 refine zan Tryz.call95 Tryz.func95 rfl (by kernel_rfl) (za2 (by kernel_rfl)) ?_
 simp -implicitDefEqProofs only [go_sem, Tryz.results95]
 refine ⟨fun h => ?_, fun h => ?_⟩ <;> simp at h ⊢ <;> omega
def inB (n lo hi : Int) : Bool := decide (lo <= n) && decide (n <= hi)
theorem zfd (n lo hi : Int) : FC Tryz.prog 55 [iD n, iD lo, iD hi] [bD (inB n lo hi)] := by
 unfold inB
 refine zan Tryz.call55 Tryz.func55 rfl (by kernel_rfl) (za2 (by kernel_rfl)) ?_
 simp -implicitDefEqProofs only [go_sem, Tryz.results55]
 refine ⟨fun h => ?_, fun h => ?_⟩ <;> simp at h ⊢ <;> omega
theorem zng (n lo hi : Int) : FC Tryz.prog 46 [iD n, iD lo, iD hi] [bD (inB n lo hi)] := by
 unfold inB
 refine zan Tryz.call46 Tryz.func46 rfl (by kernel_rfl) (za2 (by kernel_rfl)) ?_
 simp -implicitDefEqProofs only [go_sem, Tryz.results46]
 refine ⟨fun h => ?_, fun h => ?_⟩ <;> simp at h ⊢ <;> omega
theorem qbt (a b : Int) : FC Tryz.prog 115 [iD a, iD b] [iD (max a b)] := by
 refine zan Tryz.call115 Tryz.func115 rfl (by kernel_rfl) (za2 (by kernel_rfl)) ?_
 simp -implicitDefEqProofs only [go_sem, Tryz.results115]
 refine ⟨fun h => ?_, fun h => ?_⟩ <;> simp at h <;> exact int_eq (by omega)
theorem zme (b : UInt8) : FC Tryz.prog 74 [uD b] [bD (zkq b)] := by
 unfold zkq zd7 qdj
 refine zan Tryz.call74 Tryz.func74 rfl (by kernel_rfl) (za2 (by kernel_rfl)) ?_
 simp -implicitDefEqProofs only [go_sem, Tryz.results74]
 simp only [T.bool.injEq, decide_eq_true_eq, decide_eq_false_iff_not]
 refine ⟨fun h => ⟨fun h2 => ⟨fun h3 => ?_, fun h3 => ?_⟩, fun h2 => ?_⟩, fun h => ⟨fun h2 => ?_, fun h2 => ?_⟩⟩ <;> simp [h, h2] <;> omega
def zof : Str -> Bool
 | [] => true
 | c :: cs => ziz c && cs.all zkq
def za6 (s : Str) : Bool := zof s && inB s.length 1 4
theorem zlv (s : Str) : FC Tryz.prog 93 [sD s] [bD (za6 s)] := by
 refine zg6 (fun hw => ?_) Tryz.call93
 have hl : s.length <= 9223372036854775807 := by simpa [zn6, wfT] using hw.1
 refine zan Tryz.call93 Tryz.func93 rfl (by kernel_rfl) (za2 (by kernel_rfl)) ?_
 simp -implicitDefEqProofs only [go_sem, Tryz.results93]
 refine zaj (fun k : Nat => hd [(0, vT (.str s)), (5, vI s.length), (6, vI k)] [] []) (fun k => k <= s.length /\ zof s = if k = 0 then zof s else (s.drop k).all zkq) (fun k => s.length - k) 0 (zab ?_) ?_ ?_
 ·simp -implicitDefEqProofs only [go_sem]
 ·simp
 ·intro k ⟨hk, hr⟩
  by_cases hlt : k < s.length
  ·by_cases h0 : k = 0
   ·subst h0
    have hl0 : (0 : Int) < s.length := by omega
    have he : zof s = (ziz (s.getD 0 0) && (s.drop 1).all zkq) := by cases s; exact absurd hlt (by simp); rfl
    simp -implicitDefEqProofs only [go_sem, hlt, hl0]
    refine callF (zl0 (s.getD 0 0)) (by simp -implicitDefEqProofs only [go_sem]) ?_
    simp -implicitDefEqProofs only [go_sem]
    refine ⟨fun h => ⟨1, ⟨hlt, ?_⟩, by omega, zab (by simp -implicitDefEqProofs only [go_sem]; rw [zbd (by omega) (by omega)])⟩, fun h => ?_⟩
    ·have : ziz (s.getD 0 0) = true := by simpa using h
     rw [he, this]; rfl
    ·have : ziz (s.getD 0 0) = false := by simpa using h
     rw [za6, he, this]; rfl
   ·have h1 : ((k : Int) == 0) = false := by simp; omega
    have h2 : (0 : Int) < k := by omega
    have hg : s.getD k 0 = s[k] := by simp [List.getD, hlt]
    rw [if_neg h0, List.drop_eq_getElem_cons hlt, List.all_cons] at hr
    simp -implicitDefEqProofs only [go_sem, hlt, h1, h2]
    refine callF (zf5 (s.getD k 0)) (by simp -implicitDefEqProofs only [go_sem]) ?_
    simp -implicitDefEqProofs only [go_sem]
    simp only [hg]
    refine ⟨fun h => ⟨hlt, ?_⟩, fun h => ?_⟩
    ·refine callF (znl s[k]) (by simp -implicitDefEqProofs only [go_sem]) ?_
     simp -implicitDefEqProofs only [go_sem]
     refine ⟨fun h' => ?_, fun h' => ⟨k + 1, ⟨hlt, ?_⟩, by omega, zab (by simp -implicitDefEqProofs only [go_sem]; rw [zaq (by omega)])⟩⟩
     ·have : zkq s[k] = false := by simp [zkq]; simp at h h'; exact ⟨h, h'⟩
      simp [za6, hr, this]
     ·have : zkq s[k] = true := by simp [zkq]; right; simpa using h'
      rw [hr, this]; simp
    ·refine ⟨k + 1, ⟨hlt, ?_⟩, by omega, zab (by simp -implicitDefEqProofs only [go_sem]; rw [zaq (by omega)])⟩
     have : zkq s[k] = true := by simp [zkq]; left; simpa using h
     rw [hr, this]; simp
  ·simp -implicitDefEqProofs only [go_sem, hlt]
   refine callF (zfd s.length 1 4) (by simp -implicitDefEqProofs only [go_sem]) ?_
   simp -implicitDefEqProofs only [go_sem]
   have : zof s = true := by
    by_cases h0 : k = 0
    ·have : s = [] := List.length_eq_zero_iff.1 (by omega)
     rw [this]; rfl
    ·rw [hr, if_neg h0, List.drop_of_length_le (by omega)]; rfl
   simp [za6, this]
end Go.Proofs.YtaaniggpnljckaaGreat
namespace Go.Proofs.YtaaniggpnljckaaGreat
set_option linter.unusedSimpArgs false
set_option linter.unusedVariables false
set_option linter.unusedSectionVars false
set_option maxRecDepth 4000
open Go.RowKit
abbrev zb6 (xs : List Str) : T := .sl 1 (xs.map fun s => [.str s])
theorem zl9 {α : Type} [BEq α] [LawfulBEq α] {xs : List α} {s : α} {k : Nat} (hk : k < xs.length) (hn : s ∉ xs.take k) (e : xs[k] = s) : xs.idxOf s = k := by
 have h : xs = xs.take k ++ xs.drop k := (List.take_append_drop k xs).symm
 rw [List.drop_eq_getElem_cons hk] at h
 rw [h, List.idxOf_append, if_neg hn, e]
 rw [show (s :: xs.drop (k + 1)).idxOf s = 0 from List.idxOf_cons_self ..]
 simp; omega
theorem zdx {α : Type} {xs : List α} {s : α} {k : Nat} (hk : k < xs.length) (hn : s ∉ xs.take k) (e : xs[k] ≠ s) : s ∉ xs.take (k + 1) := by
 rw [List.take_succ_eq_append_getElem hk]
 simp only [List.mem_append, List.mem_singleton, not_or]
 exact ⟨hn, fun h => e h.symm⟩
def zec {α : Type} [BEq α] (xs : List α) (s : α) : Int := if xs.contains s then xs.idxOf s else -1
theorem zeq (xs : List Str) (s : Str) : FC Tryz.prog 82 [.one (zb6 xs), sD s] [iD (zec xs s)] := by
 refine zg6 (fun hw => ?_) Tryz.call82
 have hl : xs.length <= 9223372036854775807 := by simpa [zn6, wfT] using hw.1.1
 refine zan Tryz.call82 Tryz.func82 rfl (by kernel_rfl) (za2 (by kernel_rfl)) ?_
 simp -implicitDefEqProofs only [go_sem, Tryz.results82]
 refine zaj (fun k : Nat => hd [(0, vT (zb6 xs)), (1, vT (.str s)), (7, vI xs.length), (8, vI k)] [] []) (fun k => k <= xs.length /\ s ∉ xs.take k) (fun k => xs.length - k) 0 (zab ?_) ?_ ?_
 ·simp -implicitDefEqProofs only [go_sem]
 ·simp
 ·intro k ⟨hk, hr⟩
  by_cases hlt : k < xs.length
  ·simp -implicitDefEqProofs only [go_sem, zaf, hlt]
   refine ⟨fun h => ?_, fun h => ?_⟩
   ·have e : xs[k] = s := (beq_iff_eq.1 h).symm
    have hm : s ∈ xs := e ▸ List.getElem_mem hlt
    rw [zec, if_pos (by simpa using hm), zl9 hlt hr e]
   ·have e : xs[k] ≠ s := fun e => by simp [e] at h
    exact ⟨k + 1, ⟨hlt, zdx hlt hr e⟩, by omega, zab (by simp -implicitDefEqProofs only [go_sem]; rw [zaq (by omega)])⟩
  ·simp -implicitDefEqProofs only [go_sem, hlt]
   rw [List.take_of_length_le (by omega)] at hr
   rw [zec, if_neg (by simpa using hr)]
theorem zcz (xs : List Str) (s : Str) : FC Tryz.prog 57 [.one (zb6 xs), sD s] [bD (xs.contains s)] := by
 refine zan Tryz.call57 Tryz.func57 rfl (by kernel_rfl) (za2 (by kernel_rfl)) ?_
 simp -implicitDefEqProofs only [go_sem, Tryz.results57]
 refine callF (zeq xs s) (by simp -implicitDefEqProofs only [go_sem]) ?_
 simp -implicitDefEqProofs only [go_sem]
 unfold zec
 cases h : xs.contains s <;> simp
def zoh : List Str := [[116, 114, 117, 101], [102, 97, 108, 115, 101], [116, 114, 117, 116, 104], [98, 111, 116, 104], [101, 105, 116, 104, 101, 114], [105, 102], [97, 108, 108], [115, 111, 109, 101]]
theorem zsl : FC Tryz.prog 81 [] [.one (zb6 zoh)] := by
 refine zan Tryz.call81 Tryz.func81 rfl (by kernel_rfl) (za2 (by kernel_rfl)) ?_
 simp -implicitDefEqProofs only [go_sem, Tryz.results81]
 refine zay (by simp -implicitDefEqProofs only [go_sem]) ?_
 simp -implicitDefEqProofs only [go_sem]
 rfl
def zj2 (b : UInt8) : Bool := zkq b || b == 95
def zhp : Str -> Bool
 | [] => true
 | c :: cs => zd7 c && cs.all zj2
def zbz (s : Str) : Bool := zhp s && inB s.length 1 6 && !zoh.contains s
theorem qhv {b : UInt8} {n : Nat} (hn : n < 256) : ((b.toNat : Int) == (n : Int)) = (b == UInt8.ofNat n) := by
 rw [Bool.eq_iff_iff]
 simp only [beq_iff_eq]
 constructor
 ·intro h
  apply UInt8.toNat_inj.1
  simp [UInt8.toNat_ofNat]
  omega
 ·intro h
  subst h
  simp [UInt8.toNat_ofNat]
  omega
theorem zgc (s : Str) : FC Tryz.prog 56 [sD s] [bD (zbz s)] := by
 refine zg6 (fun hw => ?_) Tryz.call56
 have hl : s.length <= 9223372036854775807 := by simpa [zn6, wfT] using hw.1
 refine zan Tryz.call56 Tryz.func56 rfl (by kernel_rfl) (za2 (by kernel_rfl)) ?_
 simp -implicitDefEqProofs only [go_sem, Tryz.results56]
 refine zaj (fun k : Nat => hd [(0, vT (.str s)), (5, vI s.length), (6, vI k)] [] []) (fun k => k <= s.length /\ zhp s = if k = 0 then zhp s else (s.drop k).all zj2) (fun k => s.length - k) 0 (zab ?_) ?_ ?_
 ·simp -implicitDefEqProofs only [go_sem]
 ·simp
 ·intro k ⟨hk, hr⟩
  by_cases hlt : k < s.length
  ·by_cases h0 : k = 0
   ·subst h0
    have hl0 : (0 : Int) < s.length := by omega
    have he : zhp s = (zd7 (s.getD 0 0) && (s.drop 1).all zj2) := by cases s; exact absurd hlt (by simp); rfl
    simp -implicitDefEqProofs only [go_sem, hlt, hl0]
    refine callF (zf5 (s.getD 0 0)) (by simp -implicitDefEqProofs only [go_sem]) ?_
    simp -implicitDefEqProofs only [go_sem]
    refine ⟨fun h => ⟨hl0, ?_⟩, fun h => ?_⟩
    ·have hi : zd7 (s.getD 0 0) = true := by simpa using h
     refine callF (zf5 (s.getD 0 0)) (by simp -implicitDefEqProofs only [go_sem, hi]) ?_
     simp -implicitDefEqProofs only [go_sem, hi]
     refine ⟨1, ⟨hlt, ?_⟩, by omega, zab (by simp -implicitDefEqProofs only [go_sem]; rw [zbd (by omega) (by omega)])⟩
     rw [he, hi]; rfl
    ·have : zd7 (s.getD 0 0) = false := by simpa using h
     rw [zbz, he, this]; rfl
   ·have h1 : ((k : Int) == 0) = false := by simp; omega
    have h2 : (0 : Int) < k := by omega
    have hg : s.getD k 0 = s[k] := by simp [List.getD, hlt]
    rw [if_neg h0, List.drop_eq_getElem_cons hlt, List.all_cons] at hr
    simp -implicitDefEqProofs only [go_sem, hlt, h1, h2]
    refine callF (zf5 (s.getD k 0)) (by simp -implicitDefEqProofs only [go_sem]) ?_
    simp -implicitDefEqProofs only [go_sem]
    simp only [hg]
    refine ⟨fun h => ⟨hlt, ?_⟩, fun h => ?_⟩
    ·refine callF (znl s[k]) (by simp -implicitDefEqProofs only [go_sem]) ?_
     simp -implicitDefEqProofs only [go_sem]
     simp only [hg]
     refine ⟨fun h' => ⟨hlt, fun h'' => ?_, fun h'' => ⟨k + 1, ⟨hlt, ?_⟩, by omega, zab (by simp -implicitDefEqProofs only [go_sem]; rw [zaq (by omega)])⟩⟩, fun h' => ⟨k + 1, ⟨hlt, ?_⟩, by omega, zab (by simp -implicitDefEqProofs only [go_sem]; rw [zaq (by omega)])⟩⟩
     ·have : zj2 s[k] = false := by
       have := qhv (b := s[k]) (n := 95) (by omega)
       simp [zj2, zkq] at h h' ⊢
       refine ⟨⟨h, h'⟩, fun e => ?_⟩
       rw [e] at h''
       simp at h''
      rw [zbz, hr, this]; rfl
     ·have : zj2 s[k] = true := by
       have := qhv (b := s[k]) (n := 95) (by omega)
       simp [zj2] at h'' ⊢
       right
       simpa [h''] using this
      rw [hr, this]; rfl
     ·have : zj2 s[k] = true := by simp [zj2, zkq]; simp at h'; simp [h']
      rw [hr, this]; rfl
    ·refine ⟨k + 1, ⟨hlt, ?_⟩, by omega, zab (by simp -implicitDefEqProofs only [go_sem]; rw [zaq (by omega)])⟩
     have : zj2 s[k] = true := by simp [zj2, zkq]; simp at h; simp [h]
     rw [hr, this]; rfl
  ·simp -implicitDefEqProofs only [go_sem, hlt]
   refine callF (zfd s.length 1 6) (by simp -implicitDefEqProofs only [go_sem]) ?_
   simp -implicitDefEqProofs only [go_sem]
   have ha : zhp s = true := by
    by_cases h0 : k = 0
    ·have : s = [] := List.length_eq_zero_iff.1 (by omega)
     rw [this]; rfl
    ·rw [hr, if_neg h0, List.drop_of_length_le (by omega)]; rfl
   refine ⟨fun h => ?_, fun h => ?_⟩
   ·refine callF (zsl) (by simp -implicitDefEqProofs only [go_sem]) ?_
    simp -implicitDefEqProofs only [go_sem]
    refine callF (zcz zoh s) (by simp -implicitDefEqProofs only [go_sem]) ?_
    simp -implicitDefEqProofs only [go_sem]
    rw [zbz, ha, h]; rfl
   ·rw [zbz, ha, h]; rfl
end Go.Proofs.YtaaniggpnljckaaGreat
namespace Go.Proofs.YtaaniggpnljckaaGreat
set_option linter.unusedSimpArgs false
set_option linter.unusedVariables false
set_option linter.unusedSectionVars false
set_option maxRecDepth 4000
open Go.RowKit Go.Sort Go.Proofs
variable {P : Program}
theorem zrq {w : World} : ∀ {ss : List Str} {vs : List Value} {fps : List Nat}, zav w (ss.map T.str) vs fps -> vs = ss.map encStr /\ fps = [] /\ ∀ s ∈ ss, s.length <= zds
 | [], vs, fps, h => ⟨h.1, h.2, by simp⟩
 | s :: ss, vs, fps, h => by
  obtain ⟨v, vs', f1, f2, rfl, rfl, h1, h2⟩ := h
  unfold zao at h1
  obtain ⟨rfl, k1, rfl⟩ := h1
  obtain ⟨rfl, rfl, k2⟩ := zrq h2
  exact ⟨rfl, rfl, fun x hx => (List.mem_cons.1 hx).elim (fun e => e ▸ k1) (k2 x)⟩
theorem zqq {w : World} : ∀ {ss : List Str}, (∀ s ∈ ss, s.length <= zds) -> zav w (ss.map T.str) (ss.map encStr) []
 | [], _ => ⟨rfl, rfl⟩
 | s :: ss, h => ⟨_, _, [], [], rfl, rfl, by unfold zao; exact ⟨rfl, h s (by simp), rfl⟩, zqq fun x hx => h x (by simp [hx])⟩
theorem zmy (ss : List Str) : (ss.map fun s => [T.str s]).flatten = ss.map T.str := by induction ss <;> simp_all
theorem zwi (ss : List Str) : lens 1 (ss.map fun s => [T.str s]) := fun r hr => by obtain ⟨s, _, rfl⟩ := List.mem_map.1 hr; rfl
abbrev zg4 (ss : List Str) : List Str := ss.mergeSort leB
theorem qe7 {f : FuncId} (hc : za8 P f) (hS : ∀ (blk off cap : Nat) (ss : List (List UInt8)) (w : World), Holds encStr w blk off ss.toArray -> blk < w.heap.size -> ss.length < 4611686018427387904 →
   Calls P f #[.slice (some ⟨blk, off, none⟩) ss.length cap] w fun e w' => e = .returned (.tuple #[]) /\ ∃ n os, w' = grow (putRow encStr (Sort.ahead w n) blk off (ss.mergeSort fun x y => decide (x <= y)).toArray) os)
  (hN : ∀ (p : Option Addr) (cap : Nat) (w : World), Calls P f #[.slice p 0 cap] w fun e w' => e = .returned (.tuple #[]) /\ w' = w) (ss : List Str) (hl : ss.length < 4611686018427387904) : IC P f [] (.one (zb6 ss)) [] (.one (zb6 (zg4 ss))) [] := by
 refine ⟨hc, fun w us1 v us2 fp tp h1 hg h2 hn => ?_⟩
 rw [show us1 = [] from h1, show us2 = [] from h2]
 obtain ⟨hg, _⟩ := hg
 unfold zao at hg
 obtain ⟨ao, cap, rfl, q1, q2, q3⟩ := hg
 rw [List.length_map] at q1 ⊢
 rcases q3 with ⟨rfl, rfl, q3, rfl⟩ | ⟨b, cells, ty, fps, rfl, rfl, q3, q4, q5⟩
 ·have hs : ss = [] := List.map_eq_nil_iff.1 q3
  subst hs
  refine (hN none 0 w).mono ?_
  rintro e w' ⟨rfl, rfl⟩
  refine ⟨[], [], [], rfl, ⟨_, [], [], [], [], [], rfl, rfl, rfl, ⟨?_, rfl⟩, rfl, rfl, rfl⟩, List.nodup_nil, by simp, Bk.refl _ _⟩
  unfold zao
  exact ⟨none, 0, by simp [zg4], by simp [zg4], by simp, Or.inl ⟨rfl, rfl, by simp [zg4], rfl⟩⟩
 ·obtain ⟨_, vs, k1, k2, k3⟩ := q5.vals
  rw [zmy] at k3
  obtain ⟨rfl, rfl, k4⟩ := zrq k3
  have hsz : ss.length <= cells.size := by omega
  have ht : cells.toList.take ss.length = ss.map encStr := by
   apply List.ext_getElem?
   intro j
   by_cases hj : j < ss.length
   ·rw [List.getElem?_take_of_lt hj, Array.getElem?_toList]
    have := k2 j _ (List.getElem?_eq_getElem (by simpa using hj))
    rw [Nat.zero_add] at this
    rw [this, List.getElem?_eq_getElem (by simpa using hj)]
   ·rw [List.getElem?_take_eq_none (by omega), List.getElem?_eq_none (by simp; omega)]
  refine (hS b 0 cap ss w (holds_of_block q3 ht) (Array.getElem?_eq_some_iff.1 q3).1 hl).mono ?_
  rintro e w' ⟨rfl, n, os, rfl⟩
  have hgr := grownBy_sorted (w := w) (g := b) (n := n) (os := os) (ss.mergeSort fun x y => decide (x <= y)).toArray
  have hlen : (zg4 ss).length = ss.length := by simp [zg4]
  have htk := take_putCells cells (zg4 ss) (by omega)
  refine ⟨[], [b], [b], rfl, ⟨_, [], [b], [], [b], [], rfl, rfl, rfl, ⟨?_, rfl⟩, rfl, rfl, rfl⟩, by simp, fun x hx => Or.inl hx, ⟨hgr.os, hgr.tape, hgr.output, hgr.size, fun k hk => hgr.block k hk.1 fun e => hk.2 (by cases e; simp)⟩⟩
  unfold zao
  refine ⟨_, cap, by rw [List.length_map, hlen], by rw [List.length_map, hlen]; exact q1, q2, Or.inr ⟨b, _, ty, [], rfl, rfl, heap_sorted _ q3, by simp [putCells, q4], ?_⟩⟩
  refine zag.of_vals (zwi _) (by rw [zmy]; exact zqq fun s hs => k4 s ((List.mergeSort_perm ss leB).mem_iff.1 hs)) fun j u hu => ?_
  rw [<- htk, List.getElem?_take] at hu
  split at hu
  ·simpa using hu
  ·cases hu
structure CloneOf (P : Program) (f : FuncId) (sz bytes : Nat) : Prop where
 call : za8 P f
 old : ∀ (ad : Addr) (n c : Nat) (news : List Value) (w : World), news.length = n * sz -> n <= maxLen -> n * bytes <= 140737488355328 -> (∀ j u, news[j]? = some u -> w.cell? (ad.add j) = some u) -> (∀ u ∈ news, u.oneCell' = true) →
  Calls P f #[.slice (some ad) n c] w fun e w' => ∃ t v', e = .returned v' /\ w'.ownsRow w.heap.size t sz v' n news /\ v' ≠ .slice none 0 0 /\ Below w.heap.size w w'
 none : ∀ (n c : Nat) (w : World), Calls P f #[.slice none n c] w fun e w' => e = .returned (.slice none 0 0) /\ w' = w
theorem zak.valsA {w : World} {A : Nat -> Prop} {b sz : Nat} {rows : List (List T)} {o : Nat} (h : zak w A b o sz rows) : ∃ vs, vs.length = rows.length * sz /\ (∀ j u, vs[j]? = some u -> w.cell? ⟨b, o + j, none⟩ = some u) /\ zad w A rows.flatten vs /\ lens sz rows := by
 obtain ⟨h1, vs, h2, h3, h4⟩ := h.vals
 exact ⟨vs, h2, h3, h4, h1⟩
theorem zy1 {f : FuncId} {sz bytes : Nat} (h : CloneOf P f sz bytes) (rows : List (List T)) (hb : rows.length * bytes <= 140737488355328) {w : World} {A : Nat -> Prop} {v : Value} (h1 : zai w A (.sl sz rows) v) :
  Calls P f #[v] w fun e w' => ∃ v', e = .returned v' /\ Below w.heap.size w w' /\ ((v' = .slice none 0 0 /\ rows = []) \/ ∃ g cap cur ty vs, v' = .slice (some ⟨g, 0, none⟩) rows.length cap /\ w.heap.size <= g /\ w'.heap[g]? = some (.cells cur ty (0, 0)) /\ rows.length <= cap /\ cap <= zds /\ cur.size = cap * sz /\ cur.toList.take (rows.length * sz) = vs /\ zad w A rows.flatten vs /\ lens sz rows) := by
 unfold zai at h1
 obtain ⟨ao, cap, rfl, q1, q2, q3⟩ := h1
 cases ao with
 | none =>
  have hr : rows = [] := q3.resolve_right fun ⟨b, o, e, _⟩ => by cases e
  refine (h.none rows.length cap w).mono ?_
  rintro e w' ⟨rfl, rfl⟩
  exact ⟨_, rfl, Below.refl _ _, Or.inl ⟨rfl, hr⟩⟩
 | some ad =>
  have hx : ∃ news : List Value, news.length = rows.length * sz /\ (∀ j u, news[j]? = some u -> w.cell? (ad.add j) = some u) /\ zad w A rows.flatten news /\ lens sz rows := by
   rcases q3 with rfl | ⟨b', o', e, _, q4⟩
   ·exact ⟨[], by simp, fun j u hj => by simp at hj, by unfold zad; rfl, fun r hr => by simp at hr⟩
   ·cases e
    obtain ⟨news, k1, k2, k3, k4⟩ := q4.valsA
    exact ⟨news, k1, fun j u hj => by rw [zdt]; exact k2 j u hj, k3, k4⟩
  obtain ⟨news, k1, k2, k3, k4⟩ := hx
  refine (h.old ad rows.length cap news w k1 (by unfold maxLen; have := q2; unfold zds at this; omega) hb k2 k3.one).mono ?_
  rintro e w' ⟨t, v', rfl, ⟨o1, o2⟩, hn, hbel⟩
  refine ⟨v', rfl, hbel, Or.inr ?_⟩
  rcases o2 with ⟨e, _⟩ | ⟨g, cap', cur, e, p1, p2, p3, p4, p5, p6⟩
  ·exact absurd e hn
  ·exact ⟨g, cap', cur, t, news, e, p1, p2, p3, by unfold maxLen at p4; omega, p5, p6, k3, k4⟩
theorem qhl {cur : Array Value} {vs : List Value} {n : Nat} (h : cur.toList.take n = vs) : ∀ j u, vs[j]? = some u -> cur[0 + j]? = some u := fun j u hu => by
 rw [<- h, List.getElem?_take] at hu
 split at hu
 ·simpa using hu
 ·cases hu
theorem qcc {f : FuncId} {sz bytes : Nat} (h : CloneOf P f sz bytes) (rows : List (List T)) (hb : rows.length * bytes <= 140737488355328) (hf : ∀ c ∈ rows.flatten, c.flat = true) : FC P f [.one (.sl sz rows)] [.one (.sl sz rows)] := by
 refine ⟨h.call, fun w vs fp tp hv hn => ?_⟩
 obtain ⟨hr, rfl, rfl⟩ := zdf hv
 obtain ⟨v, _, rfl, h1, rfl⟩ := hr
 refine (zy1 h rows hb h1).mono ?_
 rintro e w' ⟨v', rfl, hbel, hh⟩
 have hB : Bk (fun k => k < w.heap.size /\ k ∉ ([] : List Nat)) w w' := ⟨hbel.os, hbel.tape, hbel.output, hbel.size, fun k hk => hbel.block k hk.1⟩
 rcases hh with ⟨rfl, hr⟩ | ⟨g, cap, cur, ty, vs, rfl, p1, p2, p3, p4, p5, p6, p7, p8⟩
 ·subst hr
  refine ⟨[_], [], [], rfl, ⟨_, [], [], [], [], [], rfl, rfl, rfl, ⟨?_, rfl⟩, rfl, rfl, rfl⟩, List.nodup_nil, by simp, hB⟩
  unfold zao
  exact ⟨Option.none, 0, rfl, Nat.le_refl _, by simp, Or.inl ⟨rfl, rfl, rfl, rfl⟩⟩
 ·refine ⟨[_], [g], [g], rfl, ⟨_, [], [g], [], [g], [], rfl, rfl, rfl, ⟨?_, rfl⟩, rfl, rfl, rfl⟩, by simp, fun b hb => by rw [List.mem_singleton.1 hb]; exact Or.inr p1, hB⟩
  unfold zao
  refine ⟨_, cap, rfl, p3, p4, Or.inr ⟨g, cur, ty, [], rfl, rfl, p2, p5, ?_⟩⟩
  have hown := zad.own p7 hf
  exact zag.of_vals p8 (zav.keep hown fun b hb => by simp at hb) fun j u hu => qhl p6 j u hu
theorem zvo (a b : Str) : Op.bytesLess a b = decide (a < b) := bytesLess_eq a b
def Srt (xs : List Str) : Prop := xs.Pairwise (· < ·)
theorem zv9 (a : Str) : ¬ a < a := List.lt_irrefl a
theorem zmg {xs : List Str} (h : Srt xs) : xs.Nodup := List.Pairwise.imp (fun {a b} (h : a < b) (e : a = b) => zv9 b (e ▸ h)) h
theorem qgt {xs ys : List Str} (hx : Srt xs) (hy : Srt ys) (h : ∀ s, s ∈ xs ↔ s ∈ ys) : xs = ys := by
 have hp : xs.Perm ys := (List.perm_ext_iff_of_nodup (zmg hx) (zmg hy)).2 h
 exact hp.eq_of_pairwise (le := fun a b => a < b) (fun a b _ _ h1 h2 => absurd (List.lt_trans h1 h2) (zv9 a)) hx hy
theorem qez {a b : Str} (h : a <= b) : a < b \/ a = b := by
 by_cases h1 : a < b
 ·exact Or.inl h1
 ·exact Or.inr (List.le_antisymm h (List.not_lt.1 h1))
theorem zw6 (xs : List Str) (s : Str) : s ∈ zg4 xs ↔ s ∈ xs := (List.mergeSort_perm xs leB).mem_iff
theorem zzd {xs : List Str} (h : xs.Nodup) : Srt (zg4 xs) := by
 have tr : ∀ a b c : List UInt8, leB a b = true -> leB b c = true -> leB a c = true := fun a b c h1 h2 => by simp only [leB, decide_eq_true_eq] at *; exact List.le_trans h1 h2
 have to : ∀ a b : List UInt8, (leB a b || leB b a) = true := fun a b => by simp only [leB, Bool.or_eq_true, decide_eq_true_eq]; exact List.le_total a b
 have hs := List.pairwise_mergeSort tr to xs
 have hn : (zg4 xs).Nodup := (List.mergeSort_perm xs leB).nodup_iff.2 h
 refine (List.Pairwise.and hs hn).imp ?_
 rintro a b ⟨h1, h2⟩
 simp only [leB, decide_eq_true_eq] at h1
 exact (qez h1).resolve_right h2
def ztw (l : List Str) (s : Str) : List Str := if (l.dropWhile fun x => Op.bytesLess x s).head? = some s then l else (l.takeWhile fun x => Op.bytesLess x s) ++ [s] ++ l.dropWhile fun x => Op.bytesLess x s
theorem qb7 (l : List Str) (s x : Str) : x ∈ ztw l s ↔ x = s \/ x ∈ l := by
 have e : l = (l.takeWhile fun x => Op.bytesLess x s) ++ l.dropWhile fun x => Op.bytesLess x s := (List.takeWhile_append_dropWhile).symm
 unfold ztw
 split
 ·rename_i h
  have : s ∈ l := by rw [e]; exact List.mem_append_right _ (List.mem_of_mem_head? h)
  exact ⟨Or.inr, fun h => h.elim (fun e => e ▸ this) id⟩
 ·conv => rhs; rw [e]
  simp only [List.mem_append, List.mem_singleton, or_assoc]
  constructor
  ·rintro (h | h | h)
   ·exact Or.inr (Or.inl h)
   ·exact Or.inl h
   ·exact Or.inr (Or.inr h)
  ·rintro (h | h | h)
   ·exact Or.inr (Or.inl h)
   ·exact Or.inl h
   ·exact Or.inr (Or.inr h)
theorem zi0 {l : List Str} {p : Str -> Bool} {x : Str} (h : (l.dropWhile p).head? = some x) : p x = false := by
 induction l with
 | nil => simp at h
 | cons a l ih =>
  rw [List.dropWhile_cons] at h
  split at h
  ·exact ih h
  ·rename_i hp; simp only [List.head?_cons, Option.some.injEq] at h; subst h; simpa using hp
theorem qco {l : List Str} (h : Srt l) (s : Str) : Srt (ztw l s) := by
 unfold ztw
 split
 ·exact h
 ·rename_i hne
  have e : (l.takeWhile fun x => Op.bytesLess x s) ++ (l.dropWhile fun x => Op.bytesLess x s) = l := List.takeWhile_append_dropWhile
  have h' := h
  rw [<- e] at h'
  obtain ⟨h1, h2, h3⟩ := List.pairwise_append.1 h'
  have ht : ∀ a ∈ l.takeWhile fun x => Op.bytesLess x s, a < s := fun a ha => by
   have := List.all_takeWhile (l := l) (p := fun x => Op.bytesLess x s)
   have := List.all_eq_true.1 this a ha
   rw [zvo] at this
   exact of_decide_eq_true this
  have hd : ∀ a ∈ l.dropWhile fun x => Op.bytesLess x s, s < a := fun a ha => by
   cases hD : l.dropWhile fun x => Op.bytesLess x s with
   | nil => rw [hD] at ha; simp at ha
   | cons y ys =>
    have hy := zi0 (l := l) (p := fun x => Op.bytesLess x s) (x := y) (by rw [hD]; rfl)
    have hys : s < y := by
     have h0 : ¬ y < s := by rw [zvo] at hy; exact of_decide_eq_false hy
     rcases qez (List.not_lt.1 h0) with h | h
     ·exact h
     ·exact absurd (by rw [hD, h]; rfl) hne
    rw [hD] at ha h2
    rcases List.mem_cons.1 ha with rfl | ha
    ·exact hys
    ·exact List.lt_trans hys ((List.pairwise_cons.1 h2).1 a ha)
  rw [List.append_assoc]
  refine List.pairwise_append.2 ⟨h1, ?_, fun a ha b hb => ?_⟩
  ·exact List.pairwise_cons.2 ⟨hd, h2⟩
  ·rcases List.mem_cons.1 hb with rfl | hb
   ·exact ht a ha
   ·exact h3 a ha b hb
end Go.Proofs.YtaaniggpnljckaaGreat
namespace Go.Proofs.YtaaniggpnljckaaGreat
set_option linter.unusedSimpArgs false
set_option linter.unusedVariables false
set_option linter.unusedSectionVars false
set_option maxRecDepth 4000
open Go.RowKit
theorem Tm.wt_args {a : Tm} {n : Nat} (h : a.wt <= n) : a.args.length <= n /\ ∀ x ∈ a.args, x.wt <= n := by
 have e := Tm.wt_eq a
 refine ⟨by omega, fun x hx => ?_⟩
 have := zgq Tm.wt a.args x hx
 omega
theorem qb9 (a : Tm) (H : ∀ x ∈ a.args, FC Tryz.prog 15 [tmD x] [tmD x]) (hs : a.args.length <= 1048576) : FC Tryz.prog 15 [tmD a] [tmD a] := by
 simp only [tmD, zaa a]
 refine zan Tryz.call15 Tryz.func15 rfl (by kernel_rfl) (za2 (by kernel_rfl)) ?_
 simp -implicitDefEqProofs only [go_sem, Tryz.results15]
 refine zaj (fun k : Nat => hd [(1, .one (.bx 1 0)), (2, .one (.bx 2 0)), (3, .one (.bx 3 0)), (4, vI k)] [(1, [.t (.str a.name), .t (tmS a.args)]), (2, [.t (.str []), .nl 2]), (3, [.t (.str a.name), .ow 3000 0])] [(3000, ⟨true, 2, (a.args.take k).map tmC, 0, true⟩)]) (fun k => k <= a.args.length) (fun k => a.args.length - k) 0 (zab ?_) ?_ ?_
 ·simp -implicitDefEqProofs only [go_sem]
 ·simp
 ·intro k hk
  by_cases hlt : k < a.args.length
  ·simp -implicitDefEqProofs only [go_sem, hlt]
   refine drawn (by kernel_rfl) ?_
   have hmin : min k a.args.length <= 4294967295 := by omega
   simp -implicitDefEqProofs only [go_sem, zaf, hlt, zaa]
   refine zau (H a.args[k] (List.getElem_mem hlt)) (by simp -implicitDefEqProofs only [go_sem, zaa]) ?_
   simp -implicitDefEqProofs only [go_sem, zaa]
   refine zb7 (by simp -implicitDefEqProofs only [go_sem]) ?_
   simp -implicitDefEqProofs only [go_sem]
   refine zlk true (by simp -implicitDefEqProofs only [go_sem, ne_eq, List.length_map, List.length_take, hmin]) ?_
   simp -implicitDefEqProofs only [go_sem, ne_eq, List.length_map, List.length_take, hmin]
   refine ⟨by kernel_rfl, k + 1, hlt, by omega, zab ?_⟩
   simp -implicitDefEqProofs only [go_sem]
   rw [zaq (by omega), List.take_succ_eq_append_getElem hlt, List.map_append, List.map_singleton]
   simp only [zaa]
   trivial
  ·have ht : a.args.take k = a.args := List.take_of_length_le (by omega)
   simp -implicitDefEqProofs only [go_sem, hlt, ht]
theorem zow : ∀ a : Tm, a.wt <= 1048576 -> FC Tryz.prog 15 [tmD a] [tmD a] :=
 zbm fun n xs ih hs => by
  obtain ⟨h1, h2⟩ := Tm.wt_args hs
  exact qb9 (.mk n xs) (fun x hx => ih x hx (h2 x hx)) h1
end Go.Proofs.YtaaniggpnljckaaGreat
namespace Go.Proofs.YtaaniggpnljckaaGreat
set_option linter.unusedSimpArgs false
set_option linter.unusedVariables false
set_option linter.unusedSectionVars false
set_option maxRecDepth 4000
open Go.RowKit
theorem qha {P : Program} {t : TypeId} {n b : Nat} {z : List C} (h1 : zbc P t = some n) (h2 : zcu P t = some b) (h3 : zcs P t = some z) (h4 : z.length = n) : ∃ i0 zv, P.info? t = some i0 /\ i0.zero = some zv /\ zv.cells.size = n /\ i0.size = n /\ i0.bytes = b := by
 unfold zbc at h1
 unfold zcu at h2
 unfold zcs at h3
 cases hi : P.info? t with
 | none => rw [hi] at h1; cases h1
 | some i =>
  rw [hi] at h1 h2 h3
  simp only [Option.map_some, Option.some.injEq] at h1 h2
  simp only [Option.bind_some] at h3
  cases hz : i.zero with
  | none => rw [hz] at h3; cases h3
  | some zv =>
   rw [hz] at h3
   simp only [Option.map_some, Option.some.injEq] at h3
   refine ⟨i, zv, rfl, hz, ?_, h1, h2⟩
   rw [<- h4, <- h3]; simp
abbrev ze4 (xs : List Int) : T := .sl 1 (xs.map fun s => [.int .i64 s])
end Go.Proofs.YtaaniggpnljckaaGreat
namespace Go.Proofs.YtaaniggpnljckaaGreat
set_option linter.unusedSimpArgs false
set_option linter.unusedVariables false
set_option linter.unusedSectionVars false
set_option maxRecDepth 4000
open Go.RowKit
theorem qg6 {b : UInt8} (h1 : decide ((b.toNat : Int) < 65) = false) (h2 : decide ((90 : Int) < b.toNat) = false) : ziz b = true := by
 simp [ziz] at *; omega
theorem qbw {b : UInt8} (h1 : decide ((b.toNat : Int) < 65) = true) : ziz b = false := by
 simp [ziz] at *; omega
theorem qb5 {b : UInt8} (h2 : decide ((90 : Int) < b.toNat) = true) : ziz b = false := by
 simp [ziz] at *; omega
theorem qbx {b : UInt8} (h1 : decide ((b.toNat : Int) < 97) = false) (h2 : decide ((122 : Int) < b.toNat) = false) : zd7 b = true := by
 simp [zd7] at *; omega
theorem zu5 {b : UInt8} (h1 : decide ((b.toNat : Int) < 97) = true) : zd7 b = false := by
 simp [zd7] at *; omega
theorem zyk {b : UInt8} (h2 : decide ((122 : Int) < b.toNat) = true) : zd7 b = false := by
 simp [zd7] at *; omega
theorem zql {s : Str} (h : 0 < s.length) : zof s = (ziz (s.getD 0 0) && (s.drop 1).all zkq) := by
 cases s
 ·exact absurd h (by simp)
 ·rfl
theorem znn {s : Str} (h : 0 < s.length) : zhp s = (zd7 (s.getD 0 0) && (s.drop 1).all zj2) := by
 cases s
 ·exact absurd h (by simp)
 ·rfl
theorem zgk (s : Str) : FC Tryz.prog 89 [sD s] [bD (za6 s)] := by
 refine zg6 (fun hw => ?_) Tryz.call89
 have hl : s.length <= 9223372036854775807 := by simpa [zn6, wfT] using hw.1
 refine zan Tryz.call89 Tryz.func89 rfl (by kernel_rfl) (za2 (by kernel_rfl)) ?_
 simp -implicitDefEqProofs only [go_sem, Tryz.results89]
 refine callF (zng s.length 1 4) (by simp -implicitDefEqProofs only [go_sem]) ?_
 simp -implicitDefEqProofs only [go_sem]
 by_cases hb : inB s.length 1 4 = true
 ·have hp : 0 < s.length := by simp [inB] at hb; omega
  have hp' : (0 : Int) < s.length := by omega
  have he := zql hp
  refine ⟨fun h => ⟨hp', fun h1 => ⟨hp', fun h2 => ?_, fun h2 => ?_⟩, fun h1 => ?_⟩, fun h => by simp [hb] at h⟩
  ·rw [za6, he, qb5 h2]; rfl
  ·rw [qg6 h1 h2, Bool.true_and] at he
   refine zaj (fun k : Nat => hd [(0, vT (.str s)), (3, vI k)] [] []) (fun k => k <= s.length /\ zof s = (s.drop k).all zkq) (fun k => s.length - k) 1 (zab ?_) ?_ ?_
   ·simp -implicitDefEqProofs only [go_sem]
   ·exact ⟨hp, he⟩
   ·intro k ⟨hk, hr⟩
    by_cases hlt : k < s.length
    ·have hg : s.getD k 0 = s[k] := by simp [List.getD, hlt]
     rw [List.drop_eq_getElem_cons hlt, List.all_cons] at hr
     simp -implicitDefEqProofs only [go_sem, hlt]
     simp only [hg]
     refine callF (zme s[k]) (by simp -implicitDefEqProofs only [go_sem]) ?_
     simp -implicitDefEqProofs only [go_sem]
     refine ⟨fun h => ?_, fun h => ⟨k + 1, ⟨hlt, ?_⟩, by omega, zab (by simp -implicitDefEqProofs only [go_sem]; rw [zaq (by omega)])⟩⟩
     ·have : zkq s[k] = false := by simpa using h
      rw [za6, hr, this]; rfl
     ·have : zkq s[k] = true := by simpa using h
      rw [hr, this]; rfl
    ·simp -implicitDefEqProofs only [go_sem, hlt]
     rw [za6, hr, List.drop_of_length_le (by omega), hb]; rfl
  ·rw [za6, he, qbw h1]; rfl
 ·have hb' : inB s.length 1 4 = false := by simpa using hb
  refine ⟨fun h => by simp [hb'] at h, fun h => ?_⟩
  rw [za6, hb', Bool.and_false]
set_option maxHeartbeats 1000000 in
theorem zf9 (s : Str) : FC Tryz.prog 47 [sD s] [bD (zbz s)] := by
 refine zg6 (fun hw => ?_) Tryz.call47
 have hl : s.length <= 9223372036854775807 := by simpa [zn6, wfT] using hw.1
 refine zan Tryz.call47 Tryz.func47 rfl (by kernel_rfl) (za2 (by kernel_rfl)) ?_
 simp -implicitDefEqProofs only [go_sem, Tryz.results47]
 refine callF (zng s.length 1 6) (by simp -implicitDefEqProofs only [go_sem]) ?_
 simp -implicitDefEqProofs only [go_sem]
 by_cases hb : inB s.length 1 6 = true
 ·have hp : 0 < s.length := by simp [inB] at hb; omega
  have hp' : (0 : Int) < s.length := by omega
  have he := znn hp
  refine ⟨fun h => ⟨hp', fun h1 => ⟨hp', fun h2 => ?_, fun h2 => ?_⟩, fun h1 => ?_⟩, fun h => by simp [hb] at h⟩
  ·rw [zbz, he, zyk h2]; rfl
  ·rw [qbx h1 h2, Bool.true_and] at he
   have leaf : ∀ l, l ∈ zoh -> (s == l) = true -> T.bool false = T.bool (zbz s) := fun l hl e => by
    have : zoh.contains s = true := by rw [List.contains_iff_mem, beq_iff_eq.1 e]; exact hl
    rw [zbz, this, Bool.not_true, Bool.and_false]
   refine ⟨fun e => ⟨fun _ => leaf _ (by simp [zoh]) e, fun e' => absurd (e.symm.trans e') (by simp)⟩, fun n1 => ?_⟩
   refine ⟨fun e => ⟨fun _ => leaf _ (by simp [zoh]) e, fun e' => absurd (e.symm.trans e') (by simp)⟩, fun n2 => ?_⟩
   refine ⟨fun e => ⟨fun _ => leaf _ (by simp [zoh]) e, fun e' => absurd (e.symm.trans e') (by simp)⟩, fun n3 => ?_⟩
   refine ⟨fun e => ⟨fun _ => leaf _ (by simp [zoh]) e, fun e' => absurd (e.symm.trans e') (by simp)⟩, fun n4 => ?_⟩
   refine ⟨fun e => ⟨fun _ => leaf _ (by simp [zoh]) e, fun e' => absurd (e.symm.trans e') (by simp)⟩, fun n5 => ?_⟩
   refine ⟨fun e => ⟨fun _ => leaf _ (by simp [zoh]) e, fun e' => absurd (e.symm.trans e') (by simp)⟩, fun n6 => ?_⟩
   refine ⟨fun e => ⟨fun _ => leaf _ (by simp [zoh]) e, fun e' => absurd (e.symm.trans e') (by simp)⟩, fun n7 => ?_⟩
   refine ⟨fun e => leaf _ (by simp [zoh]) e, fun n8 => ?_⟩
   have hnc : zoh.contains s = false := by
    simp only [beq_eq_false_iff_ne, ne_eq] at n1 n2 n3 n4 n5 n6 n7 n8
    rw [Bool.eq_false_iff, ne_eq, List.contains_iff_mem]
    simp only [zoh, List.mem_cons, List.not_mem_nil, or_false, not_or]
    exact ⟨n1, n2, n3, n4, n5, n6, n7, n8⟩
   refine zaj (fun k : Nat => hd [(0, vT (.str s)), (3, vI k)] [] []) (fun k => k <= s.length /\ zhp s = (s.drop k).all zj2) (fun k => s.length - k) 1 (zab ?_) ?_ ?_
   ·simp -implicitDefEqProofs only [go_sem]
   ·exact ⟨hp, he⟩
   ·intro k ⟨hk, hr⟩
    by_cases hlt : k < s.length
    ·have hg : s.getD k 0 = s[k] := by simp [List.getD, hlt]
     rw [List.drop_eq_getElem_cons hlt, List.all_cons] at hr
     simp -implicitDefEqProofs only [go_sem, hlt]
     simp only [hg]
     refine callF (zme s[k]) (by simp -implicitDefEqProofs only [go_sem]) ?_
     simp -implicitDefEqProofs only [go_sem]
     simp only [hg]
     refine ⟨fun h => ⟨hlt, fun h' => ?_, fun h' => ⟨k + 1, ⟨hlt, ?_⟩, by omega, zab (by simp -implicitDefEqProofs only [go_sem]; rw [zaq (by omega)])⟩⟩, fun h => ⟨k + 1, ⟨hlt, ?_⟩, by omega, zab (by simp -implicitDefEqProofs only [go_sem]; rw [zaq (by omega)])⟩⟩
     ·have : zj2 s[k] = false := by
       simp [zj2] at h ⊢
       refine ⟨h, fun e => ?_⟩
       rw [e] at h'
       simp at h'
      rw [zbz, hr, this]; rfl
     ·have : zj2 s[k] = true := by
       have := qhv (b := s[k]) (n := 95) (by omega)
       simp [zj2] at h' ⊢
       right
       simpa [h'] using this
      rw [hr, this]; rfl
     ·have : zj2 s[k] = true := by simp [zj2]; simp at h; simp [h]
      rw [hr, this]; rfl
    ·simp -implicitDefEqProofs only [go_sem, hlt]
     rw [zbz, hr, List.drop_of_length_le (by omega), hb, hnc]; rfl
  ·rw [zbz, he, zu5 h1]; rfl
 ·have hb' : inB s.length 1 6 = false := by simpa using hb
  refine ⟨fun h => by simp [hb'] at h, fun h => ?_⟩
  rw [zbz, hb', Bool.and_false]; rfl
end Go.Proofs.YtaaniggpnljckaaGreat
namespace Go.Proofs.YtaaniggpnljckaaGreat
set_option linter.unusedSimpArgs false
set_option linter.unusedVariables false
set_option linter.unusedSectionVars false
set_option maxRecDepth 4000
open Go.RowKit
def Tm.nodes : Tm -> Nat := Tm.fold fun _ _ rs => 1 + rs.sum
theorem Tm.nodes_eq (a : Tm) : a.nodes = 1 + (a.args.map Tm.nodes).sum := Tm.fold_eq _ a
def Tm.depth : Tm -> Nat := Tm.fold fun _ _ rs => rs.foldl max 0 + 1
theorem Tm.depth_eq (a : Tm) : a.depth = (a.args.map Tm.depth).foldl max 0 + 1 := Tm.fold_eq _ a
theorem zdc : ∀ a : Tm, a.nodes <= 1 + a.wt := by
 refine zbm fun n xs ih => ?_
 rw [Tm.nodes_eq, Tm.wt_eq]
 show 1 + (xs.map Tm.nodes).sum <= 1 + (n.length + xs.length + (xs.map Tm.wt).sum)
 have : (xs.map Tm.nodes).sum <= xs.length + (xs.map Tm.wt).sum := by
  clear n
  induction xs with
  | nil => simp
  | cons x xs ih2 =>
   have h1 := ih x (by simp)
   have h2 := ih2 fun y hy => ih y (by simp [hy])
   simp only [List.map_cons, List.sum_cons, List.length_cons]
   omega
 omega
theorem zg2 {B : Nat} : ∀ (xs : List Nat) (m : Nat), m <= B -> (∀ x ∈ xs, x <= B) -> xs.foldl max m <= B
 | [], m, h, _ => h
 | x :: xs, m, h, h2 => zg2 xs (max m x) (by have := h2 x (by simp); omega) fun y hy => h2 y (by simp [hy])
theorem zh7 : ∀ a : Tm, a.depth <= a.nodes := by
 refine zbm fun n xs ih => ?_
 rw [Tm.nodes_eq, Tm.depth_eq]
 show (xs.map Tm.depth).foldl max 0 + 1 <= 1 + (xs.map Tm.nodes).sum
 have := zg2 (B := (xs.map Tm.nodes).sum) (xs.map Tm.depth) 0 (by omega) fun d hd => by
  obtain ⟨x, hx, rfl⟩ := List.mem_map.1 hd
  exact Nat.le_trans (ih x hx) (zgq Tm.nodes xs x hx)
 omega
def szL (lim : Int) : Int -> List Int -> Int
 | n, [] => n
 | n, r :: rs => if n > lim then n else szL lim (n + r) rs
def zd8 : Tm -> Int := Tm.fold fun _ _ rs => szL 30 1 rs
theorem zqt (a : Tm) : zd8 a = szL 30 1 (a.args.map zd8) := Tm.fold_eq _ a
theorem zro {α : Type} (f : α -> Int) (g : α -> Nat) (lim : Int) : ∀ (xs : List α) (n : Int), 0 <= n -> (∀ x ∈ xs, 1 <= f x /\ f x <= g x /\ (f x <= lim -> f x = g x)) -> szL lim n (xs.map f) <= n + (xs.map g).sum /\ n <= szL lim n (xs.map f) /\ (szL lim n (xs.map f) <= lim -> szL lim n (xs.map f) = n + (xs.map g).sum)
 | [], n, _, _ => by simp [szL]
 | x :: xs, n, hn, h => by
  obtain ⟨h1, h2, h3⟩ := h x (by simp)
  obtain ⟨k1, k2, k3⟩ := zro f g lim xs (n + f x) (by omega) fun y hy => h y (by simp [hy])
  simp only [List.map_cons, szL, List.sum_cons]
  split
  ·refine ⟨by omega, by omega, fun hh => by omega⟩
  ·refine ⟨by omega, by omega, fun hh => ?_⟩
   have := k3 hh
   rw [this]
   have : f x = g x := h3 (by omega)
   omega
theorem zjm : ∀ a : Tm, 1 <= zd8 a /\ zd8 a <= a.nodes /\ (zd8 a <= 30 -> zd8 a = a.nodes) := by
 refine zbm fun n xs ih => ?_
 rw [zqt, Tm.nodes_eq]
 show 1 <= szL 30 1 (xs.map zd8) /\ szL 30 1 (xs.map zd8) <= ((1 + (xs.map Tm.nodes).sum : Nat) : Int) /\ _
 obtain ⟨k1, k2, k3⟩ := zro zd8 Tm.nodes 30 xs 1 (by omega) ih
 refine ⟨k2, by omega, fun h => ?_⟩
 have := k3 h
 show szL 30 1 (xs.map zd8) = _
 rw [this]; show _ = ((1 + (xs.map Tm.nodes).sum : Nat) : Int); omega
theorem zz1 (a : Tm) : decide (zd8 a <= 30) = decide (a.nodes <= 30) := by
 obtain ⟨h1, h2, h3⟩ := zjm a
 rw [decide_eq_decide]
 exact ⟨fun h => by have := h3 h; omega, fun h => by omega⟩
def qfh {α : Type} (f : α -> Nat) (xs : List α) (k : Nat) : Nat := ((xs.drop k).map f).sum
theorem zlz {α : Type} (f : α -> Nat) (xs : List α) : qfh f xs 0 = (xs.map f).sum := by simp [qfh]
theorem zum {α : Type} (f : α -> Nat) (xs : List α) (k : Nat) (h : k < xs.length) : qfh f xs k = f xs[k] + qfh f xs (k + 1) := by
 unfold qfh
 rw [List.drop_eq_getElem_cons h, List.map_cons, List.sum_cons]
set_option maxHeartbeats 400000 in
theorem qg0 (a : Tm) (hs : a.wt <= 1099511627776) (H : ∀ x ∈ a.args, FC Tryz.prog 91 [tmD x] [iD (zd8 x)]) : FC Tryz.prog 91 [tmD a] [iD (zd8 a)] := by
 refine zg6 (fun hw => ?_) Tryz.call91
 have hl : a.args.length <= 9223372036854775807 := by rw [Tm.wt_eq] at hs; omega
 have hn := zdc a
 have hN := a.nodes_eq
 simp only [tmD, zaa]
 refine zan Tryz.call91 Tryz.func91 rfl (by kernel_rfl) (za2 (by kernel_rfl)) ?_
 simp -implicitDefEqProofs only [go_sem, Tryz.results91]
 refine zaj (fun p : Nat × Int => hd [(3, vI p.2), (7, vT (tmS a.args)), (8, vI a.args.length), (9, vI p.1)] [] []) (fun p => p.1 <= a.args.length /\ zd8 a = szL 30 p.2 ((a.args.drop p.1).map zd8) /\ 1 <= p.2 /\ p.2 + qfh Tm.nodes a.args p.1 <= a.nodes) (fun p => a.args.length - p.1) (0, 1) (zab ?_) ?_ ?_
 ·simp -implicitDefEqProofs only [go_sem]
 ·exact ⟨by simp, by rw [zqt]; rfl, by omega, by rw [zlz]; omega⟩
 ·intro ⟨k, n⟩ ⟨hk, hr, h1, h2⟩
  simp only at hk hr h1 h2
  by_cases hlt : k < a.args.length
  ·have hd := zum Tm.nodes a.args k hlt
   obtain ⟨s1, s2, s3⟩ := zjm a.args[k]
   rw [List.drop_eq_getElem_cons hlt, List.map_cons, szL] at hr
   simp -implicitDefEqProofs only [go_sem, zaf, hlt, zaa]
   refine ⟨fun h => ?_, fun h => ?_⟩
   ·rw [hr, if_pos (by simpa using h)]
   ·refine callF (H a.args[k] (List.getElem_mem hlt)) (by simp -implicitDefEqProofs only [go_sem, zaa]) ?_
    simp -implicitDefEqProofs only [go_sem, zaa]
    rw [if_neg (by simpa using h)] at hr
    exact ⟨(k + 1, n + zd8 a.args[k]), ⟨hlt, hr, by simp only; omega, by simp only; omega⟩, by simp only; omega, zab (by simp -implicitDefEqProofs only [go_sem]; rw [zaq (by omega), zbd (by omega) (by omega)]; exact ⟨rfl, rfl⟩)⟩
  ·simp -implicitDefEqProofs only [go_sem, hlt]
   rw [hr, List.drop_of_length_le (by omega)]; rfl
theorem size_c : ∀ a : Tm, a.wt <= 1099511627776 -> FC Tryz.prog 91 [tmD a] [iD (zd8 a)] :=
 zbm fun n xs ih hs => qg0 (.mk n xs) hs fun x hx => ih x hx (by
  have := Tm.wt_eq (.mk n xs)
  have := zgq Tm.wt xs x hx
  simp only [Tm.args] at *; omega)
set_option maxHeartbeats 400000 in
theorem zz5 (a : Tm) (hs : a.wt <= 1099511627776) (H : ∀ x ∈ a.args, FC Tryz.prog 92 [tmD x] [iD x.depth]) : FC Tryz.prog 92 [tmD a] [iD a.depth] := by
 have hl : a.args.length <= 9223372036854775807 := by rw [Tm.wt_eq] at hs; omega
 have hn := zdc a
 have hdn := zh7 a
 have hD := a.depth_eq
 simp only [tmD, zaa]
 refine zan Tryz.call92 Tryz.func92 rfl (by kernel_rfl) (za2 (by kernel_rfl)) ?_
 simp -implicitDefEqProofs only [go_sem, Tryz.results92]
 refine zaj (fun p : Nat × Nat => hd [(3, vI p.2), (7, vT (tmS a.args)), (8, vI a.args.length), (9, vI p.1)] [] []) (fun p => p.1 <= a.args.length /\ a.depth = ((a.args.drop p.1).map Tm.depth).foldl max p.2 + 1) (fun p => a.args.length - p.1) (0, 0) (zab ?_) ?_ ?_
 ·simp -implicitDefEqProofs only [go_sem]
 ·exact ⟨by simp, hD⟩
 ·intro ⟨k, n⟩ ⟨hk, hr⟩
  simp only at hk hr
  by_cases hlt : k < a.args.length
  ·rw [List.drop_eq_getElem_cons hlt, List.map_cons, List.foldl_cons] at hr
   simp -implicitDefEqProofs only [go_sem, zaf, hlt, zaa]
   refine callF (H a.args[k] (List.getElem_mem hlt)) (by simp -implicitDefEqProofs only [go_sem, zaa]) ?_
   simp -implicitDefEqProofs only [go_sem, zaa]
   exact ⟨(k + 1, max n a.args[k].depth), ⟨hlt, hr⟩, by simp only; omega, zab (by simp -implicitDefEqProofs only [go_sem]; rw [zaq (by omega)]; exact ⟨by congr 1; omega, rfl⟩)⟩
  ·simp -implicitDefEqProofs only [go_sem, hlt]
   rw [List.drop_of_length_le (by omega)] at hr
   simp only [List.map_nil, List.foldl_nil] at hr
   rw [hr, zaq (by omega)]
theorem qgm : ∀ a : Tm, a.wt <= 1099511627776 -> FC Tryz.prog 92 [tmD a] [iD a.depth] :=
 zbm fun n xs ih hs => zz5 (.mk n xs) hs fun x hx => ih x hx (by
  have := Tm.wt_eq (.mk n xs)
  have := zgq Tm.wt xs x hx
  simp only [Tm.args] at *; omega)
def zdb (a : Tm) : Bool := decide (a.nodes <= 30) && decide (a.depth <= 8)
theorem zmu (a : Tm) (hs : a.wt <= 1099511627776) : FC Tryz.prog 66 [tmD a] [bD (zdb a)] := by
 simp only [tmD, zaa]
 refine zan Tryz.call66 Tryz.func66 rfl (by kernel_rfl) (za2 (by kernel_rfl)) ?_
 simp -implicitDefEqProofs only [go_sem, Tryz.results66]
 refine callF (size_c a hs) (by simp -implicitDefEqProofs only [go_sem, zaa]) ?_
 simp -implicitDefEqProofs only [go_sem, zaa]
 rw [zz1]
 refine ⟨fun h => ?_, fun h => ?_⟩
 ·refine callF (qgm a hs) (by simp -implicitDefEqProofs only [go_sem, zaa]) ?_
  simp -implicitDefEqProofs only [go_sem, zaa]
  rw [zdb, h, Bool.true_and]
  congr 1
  rw [decide_eq_decide]; omega
 ·rw [zdb, h]; rfl
end Go.Proofs.YtaaniggpnljckaaGreat
namespace Go.Proofs.YtaaniggpnljckaaGreat
set_option linter.unusedSimpArgs false
set_option linter.unusedVariables false
set_option linter.unusedSectionVars false
set_option maxRecDepth 4000
open Go.RowKit
theorem qas (σ : St) (caps : List T) : VDs σ (caps.map fun t => .one (.t t)) (caps.map .one) = True := by
 induction caps with
 | nil => simp [VDs]
 | cons t ts ih => rw [List.map_cons, List.map_cons, zp7, ih]; simp [qet, CT_t]
attribute [go_sem] qas
def zmr {α : Type} (xs : List α) (p : α -> Bool) : Int := if xs.any p then xs.findIdx p else -1
theorem zep {α : Type} {xs : List α} {p : α -> Bool} {k : Nat} (hk : k < xs.length) (hn : ∀ x ∈ xs.take k, p x = false) (h : p xs[k] = true) : zmr xs p = k := by
 have ha : xs.any p = true := List.any_eq_true.2 ⟨xs[k], List.getElem_mem hk, h⟩
 have hf : xs.findIdx p = k := (List.findIdx_eq hk).2 ⟨h, fun j hj => hn _ (by
  rw [List.mem_take_iff_getElem]; exact ⟨j, by omega, rfl⟩)⟩
 rw [zmr, if_pos ha, hf]
theorem zf4 {α : Type} {xs : List α} {p : α -> Bool} (hn : ∀ x ∈ xs, p x = false) : zmr xs p = -1 := by
 have ha : xs.any p = false := by rw [List.any_eq_false]; exact fun x hx => by simp [hn x hx]
 rw [zmr, ha]; rfl
theorem zkm {α : Type} (xs : List α) (p : α -> Bool) : decide (0 <= zmr xs p) = xs.any p := by
 unfold zmr
 cases xs.any p <;> simp
theorem zb8 {α : Type} {xs : List α} {p : α -> Bool} {k : Nat} (hk : k < xs.length) (hn : ∀ x ∈ xs.take k, p x = false) (h : p xs[k] = false) : ∀ x ∈ xs.take (k + 1), p x = false := by
 rw [List.take_succ_eq_append_getElem hk]
 intro x hx
 rcases List.mem_append.1 hx with hx | hx
 ·exact hn x hx
 ·rw [List.mem_singleton.1 hx]; exact h
theorem zei (xs : List Tm) (p : Tm -> Bool) (g : FuncId) (caps : List T) (H : ∀ x ∈ xs, FC Tryz.prog g (tmD x :: caps.map .one) [bD (p x)]) : FC Tryz.prog 38 [.one (tmS xs), .one (.fn g caps)] [iD (zmr xs p)] := by
 refine zg6 (fun hw => ?_) Tryz.call38
 have hl : xs.length <= 9223372036854775807 := by simpa [zn6, wfT] using hw.1.1
 refine zan Tryz.call38 Tryz.func38 rfl (by kernel_rfl) (za2 (by kernel_rfl)) ?_
 simp -implicitDefEqProofs only [go_sem, Tryz.results38]
 refine zaj (fun k : Nat => hd [(0, vT (tmS xs)), (1, vT (.fn g caps)), (7, vI xs.length), (8, vI k)] [] []) (fun k => k <= xs.length /\ ∀ x ∈ xs.take k, p x = false) (fun k => xs.length - k) 0 (zab ?_) ?_ ?_
 ·simp -implicitDefEqProofs only [go_sem]
 ·simp
 ·intro k ⟨hk, hr⟩
  by_cases hlt : k < xs.length
  ·simp -implicitDefEqProofs only [go_sem, zaf, hlt, zaa]
   refine callF (H xs[k] (List.getElem_mem hlt)) (by simp -implicitDefEqProofs only [go_sem, zaa]) ?_
   simp -implicitDefEqProofs only [go_sem, zaa]
   refine ⟨fun h => ?_, fun h => ⟨k + 1, ⟨hlt, zb8 hlt hr h⟩, by omega, zab (by simp -implicitDefEqProofs only [go_sem]; rw [zaq (by omega)])⟩⟩
   rw [zep hlt hr h]
  ·simp -implicitDefEqProofs only [go_sem, hlt]
   rw [List.take_of_length_le (by omega)] at hr
   rw [zf4 hr]
theorem zbv (xs : List Tm) (p : Tm -> Bool) (g : FuncId) (caps : List T) (H : ∀ x ∈ xs, FC Tryz.prog g (tmD x :: caps.map .one) [bD (p x)]) : FC Tryz.prog 31 [.one (tmS xs), .one (.fn g caps)] [bD (xs.any p)] := by
 refine zan Tryz.call31 Tryz.func31 rfl (by kernel_rfl) (za2 (by kernel_rfl)) ?_
 simp -implicitDefEqProofs only [go_sem, Tryz.results31]
 refine callF (zei xs p g caps H) (by simp -implicitDefEqProofs only [go_sem]) ?_
 simp -implicitDefEqProofs only [go_sem]
 rw [zkm]
end Go.Proofs.YtaaniggpnljckaaGreat
namespace Go.Proofs.YtaaniggpnljckaaGreat
set_option linter.unusedSimpArgs false
set_option linter.unusedVariables false
set_option linter.unusedSectionVars false
set_option maxRecDepth 4000
open Go.RowKit
abbrev zi7 (l : List UInt8) : T := .sl 1 (l.map fun b => [T.int .u8 b.toNat])
end Go.Proofs.YtaaniggpnljckaaGreat
namespace Go.Proofs.YtaaniggpnljckaaGreat
set_option linter.unusedSimpArgs false
set_option linter.unusedVariables false
set_option linter.unusedSectionVars false
set_option maxRecDepth 4000
open Go.RowKit
abbrev bsD (l : List UInt8) : D := .one (zi7 l)
theorem zz3 {d : PD} (h : zb1 Tryz.prog 22 d) : ∃ l : List UInt8, d.cells = [zi7 l] := by
 obtain ⟨xs, rfl, hx⟩ := h.sl Tryz.underlying22
 obtain ⟨l, hl⟩ := zjy (fun b : UInt8 => [T.int .u8 b.toNat]) xs fun x hx' => by
  obtain ⟨n, rfl⟩ := (hx x hx').oct Tryz.underlying5
  exact ⟨n, by rw [PD.cells]⟩
 exact ⟨l, by rw [PD.cells, hl, show Tryz.prog.cellsOf 5 = 1 from by kernel_rfl]⟩
end Go.Proofs.YtaaniggpnljckaaGreat
namespace Go.Proofs.YtaaniggpnljckaaGreat
set_option linter.unusedSimpArgs false
set_option linter.unusedVariables false
set_option linter.unusedSectionVars false
set_option maxRecDepth 4000
open Go.RowKit
variable {P : Program}
inductive AF
 | d (b : Bool) (x : D)
 | p (j : Nat)
 | fn (g : FuncId) (js : List Nat)
def AF.ds : List AF -> List (Bool × D)
 | [] => []
 | .d b x :: l => (b, x) :: AF.ds l
 | .p _ :: l => AF.ds l
 | .fn _ _ :: l => AF.ds l
def zzk (b : Nat) : Value := .pointer (some ⟨b, 0, none⟩)
def AF.vals (bs : Nat -> Nat) : List AF -> List Value -> List Value
 | [], _ => []
 | .d _ _ :: l, v :: vs => v :: AF.vals bs l vs
 | .d _ _ :: _, [] => []
 | .p j :: l, vs => zzk (bs j) :: AF.vals bs l vs
 | .fn g js :: l, vs => .func (.func g) #[] ⟨js.map fun j => zzk (bs j)⟩ :: AF.vals bs l vs
def AF.okJ (n : Nat) : List AF -> Bool
 | [] => true
 | .d _ _ :: l => AF.okJ n l
 | .p j :: l => decide (j < n) && AF.okJ n l
 | .fn _ js :: l => js.all (fun j => decide (j < n)) && AF.okJ n l
abbrev Bxs := List (List (Bool × T))
def zom (w : World) (bs : Nat -> Nat) : Nat -> List (List Value) -> Bxs -> Prop
 | _, [], [] => True
 | j, vs :: bvs, b :: bx => vs.length = b.length /\ (∃ ty, w.heap[bs j]? = some (.cells ⟨vs⟩ ty (0, 0))) /\ zom w bs (j + 1) bvs bx
 | _, _, _ => False
theorem zom.len {w : World} {bs : Nat -> Nat} : ∀ {j : Nat} {bvs : List (List Value)} {bx : Bxs}, zom w bs j bvs bx -> bvs.length = bx.length
 | _, [], [], _ => rfl
 | _, _ :: _, _ :: _, h => by simp [zom.len h.2.2]
 | _, [], _ :: _, h => h.elim
 | _, _ :: _, [], h => h.elim
theorem zom.lt {w : World} {bs : Nat -> Nat} : ∀ {j : Nat} {bvs : List (List Value)} {bx : Bxs}, zom w bs j bvs bx -> ∀ i, i < bx.length -> bs (j + i) < w.heap.size
 | _, [], [], _, i, hi => by simp at hi
 | j, _ :: _, _ :: _, h, 0, hi => by obtain ⟨ty, h⟩ := h.2.1; exact (Array.getElem?_eq_some_iff.1 h).1
 | j, _ :: _, _ :: _, h, i + 1, hi => by rw [show j + (i + 1) = j + 1 + i by omega]; exact zom.lt h.2.2 i (by simpa using hi)
 | _, [], _ :: _, h, _, _ => h.elim
 | _, _ :: _, [], h, _, _ => h.elim
def PC (P : Program) (f : FuncId) (bx : Bxs) (l : List AF) (bx' : Bxs) (res : List (Bool × D)) : Prop := za8 P f /\ bx'.length = bx.length /\ ∀ (w : World) (bs : Nat -> Nat) (bvs : List (List Value)) (dvs : List Value) (fp tp : List Nat) (A : Nat -> Prop),
 (∀ i j, i < bx.length -> j < bx.length -> bs i = bs j -> i = j) -> (∀ j, j < bx.length -> bs j ∉ fp) -> zom w bs 0 bvs bx →
 zas w (fun k => (k < w.heap.size /\ k ∉ fp /\ ∀ j, j < bx.length -> k ≠ bs j) /\ A k) (AF.ds l ++ bxA bx.flatten) (dvs ++ bvs.flatten) fp tp -> fp.Nodup -> dvs.length = (AF.ds l).length →
 Calls P f ⟨AF.vals bs l dvs⟩ w fun e w' => ∃ us bvs' fp' tp', e = .returned (zbk us) /\ zom w' bs 0 bvs' bx' /\ us.length = res.length ∧
  zas w' (fun k => (k < w'.heap.size /\ k ∉ fp' /\ ∀ j, j < bx.length -> k ≠ bs j) /\ (A k \/ w.heap.size <= k \/ k ∈ fp)) (res ++ bxA bx'.flatten) (us ++ bvs'.flatten) fp' tp' /\ fp'.Nodup /\ (∀ b ∈ fp', b ∈ fp \/ w.heap.size <= b) ∧
  Bk (fun k => k < w.heap.size /\ k ∉ fp /\ ∀ j, j < bx.length -> k ≠ bs j) w w'
def c1P (k : Nat) : Bool × T -> C
 | (true, t) => owC k 0 t
 | (false, t) => t.toN
def zrb : Nat -> List (Bool × T) -> List C
 | _, [] => []
 | k, p :: ps => c1P k p :: zrb (k + 1) ps
def zih : Nat -> Nat -> Bxs -> Nat -> Option (List C)
 | _, _, [] => fun _ => none
 | j, k, b :: bs => upd (zih (j + 1) (k + b.length) bs) (1000000 + j) (some (zrb k b))
def zcf : Nat -> Nat -> List AF -> Nat -> V
 | _, _, [] => fun _ => .one .any
 | i, k, .d b x :: l => upd (zcf (i + 1) (k + 1) l) i (gVN k (b, x))
 | i, k, .p j :: l => upd (zcf (i + 1) k l) i (.one (.bx (1000000 + j) 0))
 | i, k, .fn g js :: l => upd (zcf (i + 1) k l) i (.one (.fn g (js.map (1000000 + ·))))
def zgy : Nat -> Bxs -> (Nat -> V) -> Nat -> V
 | _, [], f => f
 | j, _ :: bs, f => upd (zgy (j + 1) bs f) (1000000 + j) (.one (.bx (1000000 + j) 0))
def zgn (l : List AF) (bx : Bxs) : St := ⟨zgy 0 bx (zcf 0 0 l), zih 0 (AF.ds l).length bx, zd5 0 (AF.ds l ++ bxA bx.flatten)⟩
theorem qgb (k : Nat) (p : Bool × T) : gVN k (p.1, .one p.2) = .one (c1P k p) := by obtain ⟨b, t⟩ := p; cases b <;> rfl
theorem zni : ∀ (bx : Bxs) (j : Nat) (f : Nat -> V) (i : Nat), ((∃ q, q < bx.length /\ i = 1000000 + (j + q)) /\ zgy j bx f i = .one (.bx i 0)) \/ ((∀ q, q < bx.length -> i ≠ 1000000 + (j + q)) /\ zgy j bx f i = f i)
 | [], j, f, i => Or.inr ⟨fun q hq => by simp at hq, rfl⟩
 | b :: bx, j, f, i => by
  by_cases hi : i = 1000000 + j
  ·subst hi
   exact Or.inl ⟨⟨0, by simp, rfl⟩, by unfold zgy; rw [zac]⟩
  ·unfold zgy
   rw [zah _ _ hi]
   rcases zni bx (j + 1) f i with ⟨⟨q, h1, h2⟩, h3⟩ | ⟨h1, h2⟩
   ·exact Or.inl ⟨⟨q + 1, by simp; omega, by omega⟩, h3⟩
   ·refine Or.inr ⟨fun q hq => ?_, h2⟩
    cases q with
    | zero => exact hi
    | succ q => have := h1 q (by simpa using hq); omega
theorem zl4 : ∀ (bx : Bxs) (j k b : Nat), zih j k bx b ≠ none ↔ ∃ q, q < bx.length /\ b = 1000000 + (j + q)
 | [], j, k, b => ⟨fun h => absurd rfl h, fun ⟨q, hq, _⟩ => by simp at hq⟩
 | c :: bx, j, k, b => by
  unfold zih
  by_cases hi : b = 1000000 + j
  ·subst hi; rw [zac]; exact ⟨fun _ => ⟨0, by simp, rfl⟩, fun _ => by simp⟩
  ·rw [zah _ _ hi, zl4 bx (j + 1) _ b]
   refine ⟨fun ⟨q, h1, h2⟩ => ⟨q + 1, by simp; omega, by omega⟩, fun ⟨q, h1, h2⟩ => ?_⟩
   cases q with
   | zero => exact absurd h2 hi
   | succ q => exact ⟨q, by simpa using h1, by omega⟩
theorem zjh {σ : St} {g : Gh} {w : World} : ∀ {b : List (Bool × T)} {vs : List Value} {k : Nat}, vs.length = b.length -> (∀ i p v, b[i]? = some p -> vs[i]? = some v -> CR σ g w (c1P (k + i) p) v) -> CRs σ g w (zrb k b) vs
 | [], vs, _, hl, _ => List.length_eq_zero_iff.1 hl
 | p :: b, [], _, hl, _ => by simp at hl
 | p :: b, v :: vs, k, hl, h => ⟨v, vs, rfl, by simpa using h 0 p v rfl rfl, zjh (by simpa using hl) fun i q u h1 h2 => by
   have := h (i + 1) q u (by simpa using h1) (by simpa using h2)
   rw [show k + (i + 1) = k + 1 + i by omega] at this
   exact this⟩
theorem zln {σ : St} {g : Gh} {w : World} {bs : Nat -> Nat} : ∀ (bx : Bxs) (bvs : List (List Value)) (j k : Nat), zom w bs j bvs bx -> (∀ i p v, bx.flatten[i]? = some p -> bvs.flatten[i]? = some v -> CR σ g w (c1P (k + i) p) v) →
  ∀ b cs, zih j k bx b = some cs -> ∃ q vs ty, q < bx.length /\ b = 1000000 + (j + q) /\ w.heap[bs (j + q)]? = some (.cells ⟨vs⟩ ty (0, 0)) /\ CRs σ g w cs vs
 | [], _, _, _, _, _, b, cs, h => by cases h
 | c :: bx, [], _, _, h0, _, _, _, _ => h0.elim
 | c :: bx, vs :: bvs, j, k, h0, hc, b, cs, h => by
  obtain ⟨h1, ⟨ty, h2⟩, h3⟩ := h0
  unfold zih at h
  by_cases hi : b = 1000000 + j
  ·subst hi
   rw [zac] at h
   cases h
   refine ⟨0, vs, ty, by simp, rfl, h2, zjh h1 fun i p v e1 e2 => hc i p v ?_ ?_⟩
   ·rw [List.flatten_cons, List.getElem?_append_left (List.getElem?_eq_some_iff.1 e1).1]; exact e1
   ·rw [List.flatten_cons, List.getElem?_append_left (List.getElem?_eq_some_iff.1 e2).1]; exact e2
  ·rw [zah _ _ hi] at h
   obtain ⟨q, vs', ty', k1, k2, k3, k4⟩ := zln bx bvs (j + 1) (k + c.length) h3 (fun i p v e1 e2 => by
    have := hc (c.length + i) p v (by rw [List.flatten_cons, List.getElem?_append_right (by omega), show c.length + i - c.length = i by omega]; exact e1) (by rw [List.flatten_cons, List.getElem?_append_right (by omega), show c.length + i - vs.length = i by omega]; exact e2)
    rw [show k + (c.length + i) = k + c.length + i by omega] at this
    exact this) b cs h
   exact ⟨q + 1, vs', ty', by simp; omega, by omega, by rw [show j + (q + 1) = j + 1 + q by omega]; exact k3, k4⟩
theorem zet : ∀ (l : List AF) (i0 k i : Nat), l.length <= i -> zcf i0 k l (i0 + i) = .one .any
 | [], _, _, _, _ => rfl
 | a :: l, i0, k, 0, h => by simp at h
 | .d b x :: l, i0, k, i + 1, h => by unfold zcf; rw [zah _ _ (by omega), show i0 + (i + 1) = i0 + 1 + i by omega]; exact zet l _ _ i (by simpa using h)
 | .p j :: l, i0, k, i + 1, h => by unfold zcf; rw [zah _ _ (by omega), show i0 + (i + 1) = i0 + 1 + i by omega]; exact zet l _ _ i (by simpa using h)
 | .fn g js :: l, i0, k, i + 1, h => by unfold zcf; rw [zah _ _ (by omega), show i0 + (i + 1) = i0 + 1 + i by omega]; exact zet l _ _ i (by simpa using h)
theorem zfo {σ : St} {g : Gh} {w : World} {bs : Nat -> Nat} {n : Nat} (hb : ∀ j, j < n -> σ.bx (1000000 + j) ≠ none /\ g.β (1000000 + j) = bs j) : ∀ (l : List AF) (i0 k : Nat) (dvs : List Value), AF.okJ n l = true -> dvs.length = (AF.ds l).length -> (∀ i d v, (AF.ds l)[i]? = some d -> dvs[i]? = some v -> VR σ g w (gVN (k + i) d) v) →
  ∀ i, i < l.length -> ∃ v, (AF.vals bs l dvs)[i]? = some v /\ VR σ g w (zcf i0 k l (i0 + i)) v
 | [], _, _, _, _, _, _, i, hi => by simp at hi
 | .d b x :: l, i0, k, [], _, hl, _, i, hi => by simp [AF.ds] at hl
 | .d b x :: l, i0, k, v :: dvs, ho, hl, h, i, hi => by
  cases i with
  | zero => exact ⟨v, rfl, by unfold zcf; show VR σ g w (upd _ i0 _ i0) v; rw [zac]; simpa using h 0 (b, x) v rfl rfl⟩
  | succ i =>
   obtain ⟨u, k1, k2⟩ := zfo hb l (i0 + 1) (k + 1) dvs ho (by simpa [AF.ds] using hl) (fun i d v h1 h2 => by
    have := h (i + 1) d v (by simpa [AF.ds] using h1) (by simpa using h2)
    rw [show k + (i + 1) = k + 1 + i by omega] at this
    exact this) i (by simpa using hi)
   exact ⟨u, by unfold AF.vals; simpa using k1, by unfold zcf; rw [zah _ _ (by omega), show i0 + (i + 1) = i0 + 1 + i by omega]; exact k2⟩
 | .p j :: l, i0, k, dvs, ho, hl, h, i, hi => by
  unfold AF.okJ at ho
  rw [Bool.and_eq_true, decide_eq_true_eq] at ho
  cases i with
  | zero => exact ⟨_, rfl, by unfold zcf; show VR σ g w (upd _ i0 _ i0) _; rw [zac]; exact ⟨by rw [(hb j ho.1).2]; rfl, (hb j ho.1).1⟩⟩
  | succ i =>
   obtain ⟨u, k1, k2⟩ := zfo hb l (i0 + 1) k dvs ho.2 hl h i (by simpa using hi)
   exact ⟨u, by unfold AF.vals; simpa using k1, by unfold zcf; rw [zah _ _ (by omega), show i0 + (i + 1) = i0 + 1 + i by omega]; exact k2⟩
 | .fn f js :: l, i0, k, dvs, ho, hl, h, i, hi => by
  unfold AF.okJ at ho
  rw [Bool.and_eq_true, List.all_eq_true] at ho
  cases i with
  | zero =>
   refine ⟨_, rfl, ?_⟩
   unfold zcf
   show VR σ g w (upd _ i0 _ i0) _
   rw [zac]
   refine ⟨?_, fun b hb' => ?_⟩
   ·rw [List.map_map]
    congr 2
    refine List.map_congr_left fun j hj => ?_
    show zzk (bs j) = .pointer (some ⟨g.β (1000000 + j), 0, none⟩)
    rw [(hb j (by simpa using ho.1 j hj)).2]
    rfl
   ·obtain ⟨j, hj, rfl⟩ := List.mem_map.1 hb'
    exact (hb j (by simpa using ho.1 j hj)).1
  | succ i =>
   obtain ⟨u, k1, k2⟩ := zfo hb l (i0 + 1) k dvs ho.2 hl h i (by simpa using hi)
   exact ⟨u, by unfold AF.vals; simpa using k1, by unfold zcf; rw [zah _ _ (by omega), show i0 + (i + 1) = i0 + 1 + i by omega]; exact k2⟩
theorem AF.vals_len (bs : Nat -> Nat) : ∀ (l : List AF) (dvs : List Value), dvs.length = (AF.ds l).length -> (AF.vals bs l dvs).length = l.length
 | [], _, _ => rfl
 | .d _ _ :: l, [], h => by simp [AF.ds] at h
 | .d _ _ :: l, v :: vs, h => by simp [AF.vals, AF.vals_len bs l vs (by simpa [AF.ds] using h)]
 | .p _ :: l, vs, h => by simp [AF.vals, AF.vals_len bs l vs h]
 | .fn _ _ :: l, vs, h => by simp [AF.vals, AF.vals_len bs l vs h]
def T.fs : T -> Bool
 | .sl _ _ => true
 | t => t.flat
def gFS : List (Bool × D) -> Bool
 | [] => true
 | (false, _) :: ds => gFS ds
 | (true, .one t) :: ds => t.fs && gFS ds
 | (true, .agg ts) :: ds => ts.all T.fs && gFS ds
theorem zr3 : ∀ {ds : List (Bool × D)}, gFS ds = true -> ∀ (i : Nat) d, ds[i]? = some (true, d) -> match d with | .one t => t.fs = true | .agg ts => ts.all T.fs = true
 | [], _, i, d, h => by simp at h
 | (false, x) :: ds, hg, 0, d, h => by simp at h
 | (false, x) :: ds, hg, i + 1, d, h => zr3 (ds := ds) hg i d (by simpa using h)
 | (true, .one t) :: ds, hg, 0, d, h => by
  simp only [List.getElem?_cons_zero, Option.some.injEq, Prod.mk.injEq, true_and] at h
  subst h
  exact ((Bool.and_eq_true _ _).mp hg).1
 | (true, .agg t) :: ds, hg, 0, d, h => by
  simp only [List.getElem?_cons_zero, Option.some.injEq, Prod.mk.injEq, true_and] at h
  subst h
  exact ((Bool.and_eq_true _ _).mp hg).1
 | (true, .one t) :: ds, hg, i + 1, d, h => zr3 (ds := ds) ((Bool.and_eq_true _ _).mp hg).2 i d (by simpa using h)
 | (true, .agg t) :: ds, hg, i + 1, d, h => zr3 (ds := ds) ((Bool.and_eq_true _ _).mp hg).2 i d (by simpa using h)
theorem zpo {σ σ' : St} {g g' : Gh} {w : World} (he : σ'.ev = σ.ev) (hψ : g'.ψ = g.ψ) {k j : Nat} {t : T} {v : Value} (ht : t.fs = true) (h : CR σ g w (owC k j t) v) : CR σ' g' w (owC k j t) v := by
 cases t
 case sl => exact ⟨by rw [hψ]; exact h.1, by obtain ⟨x, h1, h2⟩ := h.2; exact ⟨x, by rw [he]; exact h1, h2⟩⟩
 all_goals exact zc8 (A := Fix σ g w) (w := w) ht h
theorem zm2 {σ σ' : St} {g g' : Gh} {w : World} (he : σ'.ev = σ.ev) (hψ : g'.ψ = g.ψ) {k : Nat} : ∀ {ts : List T} {j : Nat} {vs : List Value}, ts.all T.fs = true -> CRs σ g w (zla k j ts) vs -> CRs σ' g' w (zla k j ts) vs
 | [], _, _, _, h => h
 | t :: ts, j, vs, ht, h => by
  rw [List.all_cons, Bool.and_eq_true] at ht
  obtain ⟨v, vs', rfl, h1, h2⟩ := h
  exact ⟨v, vs', rfl, zpo he hψ ht.1 h1, zm2 he hψ ht.2 h2⟩
theorem zk3 (d : Nat) : ∀ (ts : List T) (j : Nat) (f : Nat -> Option Ev), (∀ e x, f e = some x -> x.deep = true /\ x.on = true) -> ∀ e x, owE d j ts f e = some x -> x.deep = true /\ x.on = true
 | [], _, f, h, e, x, hx => h e x hx
 | t :: ts, j, f, h, e, x, hx => zk3 d ts (j + 1) _ (fun e x hx => by
   cases t <;> first | exact h e x hx | skip
   rename_i sz rows
   by_cases he : e = d * 32 + j
   ·subst he; simp only [zox, zac, Option.some.injEq] at hx; subst hx; exact ⟨rfl, rfl⟩
   ·simp only [zox, zah _ _ he] at hx; exact h e x hx) e x hx
theorem zeo : ∀ (ds : List (Bool × D)) (k e : Nat) (x : Ev), zd5 k ds e = some x -> x.deep = true /\ x.on = true
 | [], _, _, _, h => by cases h
 | (false, _) :: ds, k, e, x, h => zeo ds (k + 1) e x h
 | (true, .one t) :: ds, k, e, x, h => zk3 k [t] 0 _ (fun e x hx => zeo ds (k + 1) e x hx) e x h
 | (true, .agg ts) :: ds, k, e, x, h => zk3 k ts 0 _ (fun e x hx => zeo ds (k + 1) e x hx) e x h
theorem zze {w : World} {l : List AF} {bx : Bxs} {bs : Nat -> Nat} {bvs : List (List Value)} {dvs : List Value} {fp tp : List Nat} {A : Nat -> Prop} {N : Nat} (hinj : ∀ i j, i < bx.length -> j < bx.length -> bs i = bs j -> i = j) (hbf : ∀ j, j < bx.length -> bs j ∉ fp) (hbx : zom w bs 0 bvs bx)
  (hv : zas w (fun k => (k < w.heap.size /\ k ∉ fp /\ ∀ j, j < bx.length -> k ≠ bs j) /\ A k) (AF.ds l ++ bxA bx.flatten) (dvs ++ bvs.flatten) fp tp) (hn : fp.Nodup) (hl : dvs.length = (AF.ds l).length) (hj : AF.okJ bx.length l = true) (hN : l.length <= N) (hN2 : N <= 1000000) (hs : zar (AF.ds l ++ bxA bx.flatten)) (hfs : gFS (AF.ds l ++ bxA bx.flatten) = true)
  {ξ : Nat -> Value} (h1 : ∀ i, i < 1000000 -> ξ i = undef) (h2 : ∀ i b, ξ i ≠ .bool b) (h3 : ∀ j, j < bx.length -> ξ (1000000 + j) = zzk (bs j)) :
  ∃ g, (g.A0, g.R0) = (fun b => A b \/ w.heap.size <= b \/ b ∈ fp \/ ∃ j, j < bx.length /\ b = bs j, ⟨fun b => b ∈ fp \/ w.heap.size <= b \/ ∃ j, j < bx.length /\ b = bs j, ξ, h1, h2⟩) ∧
   Rel (fun b => b < w.heap.size /\ b ∉ fp /\ ∀ j, j < bx.length -> b ≠ bs j) N (zgn l bx) g { tmps := (⟨AF.vals bs l dvs⟩ : Array Value) ++ Array.replicate (N - (AF.vals bs l dvs).length) undef, defers := [] } w := by
 have hv' : zas w (fun b => b < w.heap.size /\ (A b /\ ∀ j, j < bx.length -> b ≠ bs j) /\ b ∉ fp) (AF.ds l ++ bxA bx.flatten) (dvs ++ bvs.flatten) fp tp := zas.keepA (fun b hb => ⟨hb.1.1, ⟨hb.2, hb.1.2.2⟩, hb.1.2.1⟩) hv
 obtain ⟨g, hg, hR⟩ := Rel.start (N := (AF.ds l ++ bxA bx.flatten).length) (A0 := fun b => A b \/ w.heap.size <= b \/ b ∈ fp \/ ∃ j, j < bx.length /\ b = bs j) (R0 := ⟨fun b => b ∈ fp \/ w.heap.size <= b \/ ∃ j, j < bx.length /\ b = bs j, ξ, h1, h2⟩) hv' hn hs (Nat.le_refl _) (fun b hb => Or.inl hb.1) (fun b hb => ⟨Or.inr (Or.inr (Or.inl hb)), Or.inl hb⟩) (fun b hb => by
  by_cases hlt : b < w.heap.size
  ·have hm : b ∈ fp := Classical.byContradiction fun h => hb ⟨hlt, h⟩
   exact ⟨Or.inr (Or.inr (Or.inl hm)), Or.inl hm⟩
  ·exact ⟨Or.inr (Or.inl (by omega)), Or.inr (Or.inl (by omega))⟩)
 have hg1 : g.A0 = _ := (Prod.mk.inj hg).1
 have hg2 : g.R0 = _ := (Prod.mk.inj hg).2
 refine ⟨{ g with β := fun k => bs (k - 1000000) }, hg, ?_⟩
 have hlen : (dvs ++ bvs.flatten).length = (AF.ds l ++ bxA bx.flatten).length := zas.len hv
 have hbne : ∀ b, (zgn l bx).bx b ≠ none ↔ ∃ q, q < bx.length /\ b = 1000000 + q := fun b => by
  have := zl4 bx 0 (AF.ds l).length b
  simp only [Nat.zero_add] at this
  exact this
 have hblt : ∀ q, q < bx.length -> bs q < w.heap.size := fun q hq => by have := hbx.lt q hq; rwa [Nat.zero_add] at this
 have hdeep : ∀ e x, (zgn l bx).ev e = some x -> x.deep = true /\ x.on = true := fun e x hx => zeo _ _ e x hx
 have hφ : ∀ e, (zgn l bx).On e -> ∀ b ∈ g.φ e, ¬ (b < w.heap.size /\ b ∉ fp) := fun e he b hb => hR.etop e he b hb
 have hfree : ∀ b, ((b < w.heap.size /\ b ∉ fp /\ ∀ j, j < bx.length -> b ≠ bs j) /\ A b) -> zbr (zgn l bx) { g with β := fun k => bs (k - 1000000) } w b := fun b hb => by
  refine ⟨⟨fun k hk => ?_, fun e x hx ho hh => hφ e ⟨x, hx, ho⟩ b (List.mem_of_mem_head? hh) ⟨hb.1.1, hb.1.2.1⟩, hb.1.1, ?_⟩, fun e he hm => hφ e he b hm ⟨hb.1.1, hb.1.2.1⟩⟩
  ·obtain ⟨q, hq, rfl⟩ := (hbne k).1 hk
   show bs (1000000 + q - 1000000) ≠ b
   rw [show 1000000 + q - 1000000 = q by omega]
   exact fun e => hb.1.2.2 q hq e.symm
  ·show g.A0 b
   rw [hg1]
   exact Or.inl hb.2
 have hat : ∀ (i : Nat) d v, (AF.ds l ++ bxA bx.flatten)[i]? = some d -> (dvs ++ bvs.flatten)[i]? = some v -> VR (zgn l bx) { g with β := fun k => bs (k - 1000000) } w (gVN i d) v := fun i d v hd hv1 => by
  obtain ⟨b, d⟩ := d
  cases b with
  | false =>
   obtain ⟨u, e1, e2⟩ := zas.atR hv i d hd
   rw [e1] at hv1
   cases hv1
   exact zjb hfree e2
  | true =>
   have h0 := hR.slots i
   have hj0 := zfv (AF.ds l ++ bxA bx.flatten) 0 i
   rw [Nat.zero_add, hd] at hj0
   have h0' : VR (zci (AF.ds l ++ bxA bx.flatten)) g w (zg8 0 (AF.ds l ++ bxA bx.flatten) i) _ := h0
   rw [hj0] at h0'
   have hlt : i < (dvs ++ bvs.flatten).length := (List.getElem?_eq_some_iff.1 hv1).1
   have e : ((⟨dvs ++ bvs.flatten⟩ : Array Value) ++ Array.replicate ((AF.ds l ++ bxA bx.flatten).length - (dvs ++ bvs.flatten).length) undef).getD i (g.R0.ξ i) = v := by
    rw [Array.getD_eq_getD_getElem?, Array.getElem?_append_left (by simpa using hlt)]
    simp only [List.getElem?_toArray, hv1, Option.getD_some]
   rw [e] at h0'
   have hf := zr3 hfs i d hd
   cases d with
   | one t => exact zpo (σ := zci (AF.ds l ++ bxA bx.flatten)) (σ' := zgn l bx) (g := g) (g' := { g with β := fun k => bs (k - 1000000) }) rfl rfl hf h0'
   | agg ts => obtain ⟨a, e1, e2⟩ := h0'; exact ⟨a, e1, zm2 (σ := zci (AF.ds l ++ bxA bx.flatten)) (σ' := zgn l bx) (g := g) (g' := { g with β := fun k => bs (k - 1000000) }) rfl rfl hf e2⟩
 have hvl := AF.vals_len bs l dvs hl
 refine ⟨rfl, by simp; omega, fun b hb => ?_, fun i => ?_, fun b cs hb => ?_, fun b hb => ?_, fun b b' hb hb' he => ?_, fun e x he ho => ?_, fun e x he ho => ?_, hR.slc, fun e he b hb => ?_, fun e he b hb => ?_, fun e he => hR.nodup e he, fun e e' h1 h2 hne => hR.apart e e' h1 h2 hne, fun e k he hk hm => ?_⟩
 ·show g.A0 b /\ g.R0 b
  rw [hg1, hg2]
  show (A b \/ _) /\ (b ∈ fp \/ _)
  by_cases hlt : b < w.heap.size
  ·by_cases hm : b ∈ fp
   ·exact ⟨Or.inr (Or.inr (Or.inl hm)), Or.inl hm⟩
   ·have : ∃ j, j < bx.length /\ b = bs j := Classical.byContradiction fun hh => hb ⟨hlt, hm, fun j hj e => hh ⟨j, hj, e⟩⟩
    exact ⟨Or.inr (Or.inr (Or.inr this)), Or.inr (Or.inr this)⟩
  ·exact ⟨Or.inr (Or.inl (by omega)), Or.inr (Or.inl (by omega))⟩
 ·show VR _ _ _ (zgy 0 bx (zcf 0 0 l) i) _
  rcases zni bx 0 (zcf 0 0 l) i with ⟨⟨q, h4, rfl⟩, h5⟩ | ⟨_, h5⟩
  ·rw [h5, Nat.zero_add, Array.getD_eq_getD_getElem?, Array.getElem?_eq_none (by simp; omega)]
   refine ⟨?_, (hbne _).2 ⟨q, h4, rfl⟩⟩
   show (none : Option Value).getD (g.R0.ξ (1000000 + q)) = .pointer (some ⟨bs (1000000 + q - 1000000), 0, none⟩)
   rw [hg2, show 1000000 + q - 1000000 = q by omega]
   exact h3 q h4
  ·rw [h5]
   by_cases hi : i < l.length
   ·obtain ⟨u, e1, e2⟩ := zfo (σ := zgn l bx) (g := { g with β := fun k => bs (k - 1000000) }) (w := w) (bs := bs) (n := bx.length) (fun j hj => ⟨(hbne _).2 ⟨j, hj, rfl⟩, by show bs (1000000 + j - 1000000) = bs j; rw [show 1000000 + j - 1000000 = j by omega]⟩) l 0 0 dvs hj hl (fun i d v e1 e2 => by
     rw [Nat.zero_add]
     exact hat i d v (by rw [List.getElem?_append_left (List.getElem?_eq_some_iff.1 e1).1]; exact e1) (by rw [List.getElem?_append_left (List.getElem?_eq_some_iff.1 e2).1]; exact e2)) i hi
    rw [Nat.zero_add] at e2
    rw [Array.getD_eq_getD_getElem?, Array.getElem?_append_left (by simp; omega)]
    simp only [List.getElem?_toArray, e1, Option.getD_some]
    exact e2
   ·have := zet l 0 0 i (by omega)
    rw [Nat.zero_add] at this
    rw [this]
    trivial
 ·obtain ⟨q, vs, ty, k1, k2, k3, k4⟩ := zln (σ := zgn l bx) (g := { g with β := fun k => bs (k - 1000000) }) bx bvs 0 (AF.ds l).length hbx (fun i p v e1 e2 => by
   have := hat ((AF.ds l).length + i) (p.1, .one p.2) v (by rw [List.getElem?_append_right (by omega), show (AF.ds l).length + i - (AF.ds l).length = i by omega]; unfold bxA; rw [List.getElem?_map, e1]; rfl) (by rw [List.getElem?_append_right (by omega), show (AF.ds l).length + i - dvs.length = i by omega]; exact e2)
   rw [qgb] at this
   exact this) b cs hb
  rw [Nat.zero_add] at k2 k3
  subst k2
  exact ⟨⟨vs⟩, ty, by show w.heap[bs (1000000 + q - 1000000)]? = _; rw [show 1000000 + q - 1000000 = q by omega]; exact k3, k4⟩
 ·obtain ⟨q, hq, rfl⟩ := (hbne b).1 hb
  intro h
  have h := h.2.2 q hq
  exact h (show bs (1000000 + q - 1000000) = bs q by rw [show 1000000 + q - 1000000 = q by omega])
 ·obtain ⟨q, hq, rfl⟩ := (hbne b).1 hb
  obtain ⟨q', hq', rfl⟩ := (hbne b').1 hb'
  have he : bs (1000000 + q - 1000000) = bs (1000000 + q' - 1000000) := he
  rw [show 1000000 + q - 1000000 = q by omega, show 1000000 + q' - 1000000 = q' by omega] at he
  rw [hinj q q' hq hq' he]
 ·obtain ⟨ao, cap, e1, e2, e3, e4⟩ := hR.evs e x he ho
  refine ⟨ao, cap, e1, e2, e3, ?_⟩
  rcases e4 with e4 | ⟨b, cells, ty, fps, j1, j2, j3, j4, j5⟩
  ·exact Or.inl e4
  ·rw [if_pos (hdeep e x he).1] at j5
   exact Or.inr ⟨b, cells, ty, fps, j1, j2, j3, j4, by rw [if_pos (hdeep e x he).1]; exact j5⟩
 ·rw [(hdeep e x he).2] at ho; cases ho
 ·exact hR.ebase e he b hb
 ·exact fun h => hφ e he b hb ⟨h.1, h.2.1⟩
 ·obtain ⟨q, hq, rfl⟩ := (hbne k).1 hk
  have hm : bs (1000000 + q - 1000000) ∈ g.φ e := hm
  rw [show 1000000 + q - 1000000 = q by omega] at hm
  exact hφ e he _ hm ⟨hblt q hq, hbf q hq⟩
def bxE (σ : St) : Nat -> Bxs -> (List V -> Prop) -> Prop
 | _, [], K => K []
 | j, b :: bs, K => σ.sl (1000000 + j) = .one (.bx (1000000 + j) 0) /\ zam (σ.bx (1000000 + j)) fun cs => cs.length = b.length /\ bxE σ (j + 1) bs fun vs => K (cs.map .one ++ vs)
theorem CRs.ones {σ : St} {g : Gh} {w : World} : ∀ {cs : List C} {vs : List Value}, CRs σ g w cs vs -> VRl σ g w (cs.map .one) vs
 | [], _, h => h
 | c :: cs, _, h => by obtain ⟨v, vs', rfl, h1, h2⟩ := h; exact ⟨v, vs', rfl, h1, CRs.ones h2⟩
theorem zmc {n0 : Nat -> Prop} {N : Nat} {σ : St} {g : Gh} {a : Act} {w : World} {bs : Nat -> Nat} (hR : Rel n0 N σ g a w) (hN : N <= 1000000) : ∀ {bx : Bxs} {j : Nat} {K : List V -> Prop}, (∀ q, q < bx.length -> g.R0.ξ (1000000 + (j + q)) = zzk (bs (j + q))) -> bxE σ j bx K →
  ∃ vs bvs, K vs /\ zom w bs j bvs bx /\ VRl σ g w vs bvs.flatten /\ ∀ q, q < bx.length -> σ.bx (1000000 + (j + q)) ≠ none /\ g.β (1000000 + (j + q)) = bs (j + q)
 | [], j, K, _, h => ⟨[], [], h, trivial, rfl, fun q hq => by simp at hq⟩
 | b :: bx, j, K, hξ, h => by
  obtain ⟨h1, h2⟩ := h
  obtain ⟨cs, h3, h4, h5⟩ := zal h2
  obtain ⟨vs, bvs, k1, k2, k3, k4⟩ := zmc hR hN (bx := bx) (j := j + 1) (fun q hq => by have := hξ (q + 1) (by simpa using hq); rw [show j + (q + 1) = j + 1 + q by omega] at this; exact this) h5
  have h0 := hR.slots (1000000 + j)
  rw [h1, Array.getD_eq_getD_getElem?, Array.getElem?_eq_none (by rw [hR.size]; omega)] at h0
  have hx := hξ 0 (by simp)
  rw [Nat.add_zero] at hx
  have h0 : CR σ g w (.bx (1000000 + j) 0) (g.R0.ξ (1000000 + j)) := h0
  rw [hx] at h0
  have hβ : g.β (1000000 + j) = bs j := by
   have := h0.1
   unfold zzk at this
   simp only [Value.pointer.injEq, Option.some.injEq] at this
   injection this with e
   exact e.symm
  obtain ⟨us, ty, j1, j2⟩ := hR.boxes _ cs h3
  rw [hβ] at j1
  refine ⟨_, us.toList :: bvs, k1, ⟨by rw [j2.len, h4], ⟨ty, j1⟩, k2⟩, VRl.append j2.ones k3, fun q hq => ?_⟩
  cases q with
  | zero => exact ⟨h0.2, hβ⟩
  | succ q => rw [show j + (q + 1) = j + 1 + q by omega]; exact k4 q (by simpa using hq)
def PB0 (P : Program) (rs : List ResultVar) (res : List (Bool × D)) (bx : Bxs) (pl : List (Nat × Nat × Nat)) (σ : St) : Prop := zam (zbh P σ rs) fun vs => bxE σ 0 bx fun cs => gvA σ (fun _ => True) [] pl (vs ++ cs) (res ++ bxA bx.flatten)
def PB (P : Program) (rs : List ResultVar) (res : List (Bool × D)) (bx : Bxs) (e : Exit) (σ : St) : Prop := match e with
 | .normal => PB0 P rs res bx [] σ \/ ∃ pl, PB0 P rs res bx pl σ
 | .ret => PB0 P rs res bx [] σ \/ ∃ pl, PB0 P rs res bx pl σ
 | _ => False
theorem zhs {σ : St} : ∀ {rs : List ResultVar} {vs : List V}, zbh P σ rs = some vs -> vs.length = rs.length
 | [], vs, h => by cases h; rfl
 | r :: rs, vs, h => by
  unfold zbh at h
  cases h1 : zsh P σ r with
  | none => rw [h1] at h; cases h
  | some v =>
   rw [h1] at h
   simp only [Option.bind_some] at h
   cases h2 : zbh P σ rs with
   | none => rw [h2] at h; cases h
   | some us => rw [h2] at h; cases h; simp [zhs h2]
theorem VRl.len {σ : St} {g : Gh} {w : World} : ∀ {xs : List V} {vs : List Value}, VRl σ g w xs vs -> vs.length = xs.length
 | [], _, h => by rw [show _ = [] from h]; rfl
 | x :: xs, _, h => by obtain ⟨v, vs', rfl, _, h2⟩ := h; simp [VRl.len h2]
theorem zbl {f : FuncId} {fn : Func} {c : Code} {bx bx' : Bxs} {l : List AF} {res : List (Bool × D)} (hc : za8 P f) (hf : P.funcs[f]? = some fn) (hb : fn.body = some c) (hd : zcp fn.ntmps c = true) (hN : l.length <= fn.ntmps) (hN2 : fn.ntmps <= 1000000) (hbl : bx'.length = bx.length) (hj : AF.okJ bx.length l = true) (hs : zar (AF.ds l ++ bxA bx.flatten)) (hfs : gFS (AF.ds l ++ bxA bx.flatten) = true) (hrl : fn.results.toList.length = res.length)
  (h : ex P c [] (PB P fn.results.toList res bx') (zgn l bx)) : PC P f bx l bx' res := by
 refine ⟨hc, hbl, fun w bs bvs dvs fp tp A hinj hbf hbx hv hn hl => ?_⟩
 refine calls_of_wp hf hb ?_
 obtain ⟨g, hg, hR⟩ := zze (N := fn.ntmps) hinj hbf hbx hv hn hl hj hN hN2 hs hfs (ξ := fun i => if 1000000 <= i then zzk (bs (i - 1000000)) else undef) (fun i hi => if_neg (by omega)) (fun i b => by
  by_cases h : 1000000 <= i
  ·rw [if_pos h]; exact fun e => by cases e
  ·rw [if_neg h]; exact fun e => by cases e) (fun j hj => by
  rw [if_pos (by omega), show 1000000 + j - 1000000 = j by omega])
 refine wp_mono (zbi (w0 := w) c (zgn l bx) _ hd h g _ w hR (fun k hk => hk.1) (Bk.refl _ _) hg) fun e a' w' hq => ?_
 obtain ⟨σ', g', h1, h2, h3, h4, h5⟩ := hq
 have hξ : ∀ q, q < bx'.length -> g'.R0.ξ (1000000 + (0 + q)) = zzk (bs (0 + q)) := fun q hq => by
  rw [(Prod.mk.inj h5).2, Nat.zero_add]
  show (if 1000000 <= 1000000 + q then zzk (bs (1000000 + q - 1000000)) else undef) = _
  rw [if_pos (by omega), show 1000000 + q - 1000000 = q by omega]
 have key : (∃ pl, PB0 P fn.results.toList res bx' pl σ') -> ∃ v, (results fn a'.tmps).run P w' = .ok v w' /\ ∃ us bvs' fp' tp', Ending.returned v = .returned (zbk us) /\ zom w' bs 0 bvs' bx' /\ us.length = res.length ∧
   zas w' (fun k => (k < w'.heap.size /\ k ∉ fp' /\ ∀ j, j < bx.length -> k ≠ bs j) /\ (A k \/ w.heap.size <= k \/ k ∈ fp)) (res ++ bxA bx'.flatten) (us ++ bvs'.flatten) fp' tp' /\ fp'.Nodup /\ (∀ b ∈ fp', b ∈ fp \/ w.heap.size <= b) /\ Bk (fun k => k < w.heap.size /\ k ∉ fp /\ ∀ j, j < bx.length -> k ≠ bs j) w w' := by
  rintro ⟨pl, hk⟩
  obtain ⟨vs, hvs, hk⟩ := zal hk
  obtain ⟨us, r1, r2⟩ := zbs h2 fn hvs
  obtain ⟨cs, bvs', k0, b1, b2, b3⟩ := zmc (bs := bs) h2 hN2 hξ hk
  obtain ⟨B, hB⟩ := h2.fam
  obtain ⟨s, k1, ⟨tp', k2⟩, k3, k4⟩ := zdz h2 hB k0 (VRl.append r2 b2)
  rw [List.append_nil] at k4
  have hsp : s.Pairwise okP := (List.pairwise_reverse.1 (k4 List.Pairwise.nil)).imp fun h => h.symm
  have hin : ∀ b ∈ bks B s, ∃ e, σ'.On e /\ b ∈ g'.φ e := fun b hb => by
   obtain ⟨x, hx, hm⟩ := List.mem_flatMap.1 hb
   exact ⟨x.1, k3 x hx, hB.sub x.1 x.2 b (k3 x hx) hm⟩
  have hbβ : ∀ j, j < bx.length -> σ'.bx (1000000 + j) ≠ none /\ g'.β (1000000 + j) = bs j := fun j hj => by
   have := b3 j (by omega)
   rwa [Nat.zero_add] at this
  have hA : ∀ b, zbr σ' g' w' b -> (b < w'.heap.size /\ b ∉ bks B s /\ ∀ j, j < bx.length -> b ≠ bs j) /\ (A b \/ w.heap.size <= b \/ b ∈ fp) := fun b hb => by
   have hnb : ∀ j, j < bx.length -> b ≠ bs j := fun j hj e => hb.1.1 _ (hbβ j hj).1 (by rw [(hbβ j hj).2, e])
   refine ⟨⟨hb.1.2.2.1, fun hm => ?_, hnb⟩, ?_⟩
   ·obtain ⟨e, ho, hm⟩ := hin b hm
    exact hb.2 e ho hm
   ·have h0 := hb.1.2.2.2
    rw [(Prod.mk.inj h5).1] at h0
    rcases h0 with h0 | h0 | h0 | ⟨j, hj, h0⟩
    ·exact Or.inl h0
    ·exact Or.inr (Or.inl h0)
    ·exact Or.inr (Or.inr h0)
    ·exact absurd h0 (hnb j hj)
  refine ⟨_, r1, us, bvs', bks B s, tp', rfl, b1, by rw [r2.len, <- hrl]; exact zhs hvs, zas.keepA hA k2, zc2 h2 hB k3 hsp, fun b hb => ?_, h4⟩
  obtain ⟨e, ho, hm⟩ := hin b hb
  have h0 := (h2.ebase e ho b hm).2
  rw [(Prod.mk.inj h5).2] at h0
  rcases h0 with h0 | h0 | ⟨j, hj, h0⟩
  ·exact Or.inl h0
  ·exact Or.inr h0
  ·have := h2.ebx e _ ho (hbβ j hj).1
   rw [(hbβ j hj).2] at this
   exact absurd (h0 ▸ hm) this
 have key' : ∀ {Y : Prop}, (PB0 P fn.results.toList res bx' [] σ' \/ ∃ pl, PB0 P fn.results.toList res bx' pl σ') -> ((∃ pl, PB0 P fn.results.toList res bx' pl σ') -> Y) -> Y := fun h k => h.elim (fun h => k ⟨[], h⟩) k
 cases e with
 | normal => exact ⟨h2.defers, key' h1 key⟩
 | ret => exact ⟨h2.defers, key' h1 key⟩
 | exit _ => exact h1.elim
 | goto _ => exact h1.elim
 | panic _ => exact h1.elim
 | outgrown => exact h1.elim
end Go.Proofs.YtaaniggpnljckaaGreat
namespace Go.Proofs.YtaaniggpnljckaaGreat
set_option linter.unusedSimpArgs false
set_option linter.unusedVariables false
set_option linter.unusedSectionVars false
set_option maxRecDepth 4000
open Go.RowKit
variable {P : Program}
structure KeptB (W : List Nat) (σ τ : St) : Prop where
 sl : ∀ i, τ.sl i = .one .any \/ (τ.sl i = σ.sl i /\ (τ.sl i).okU τ)
 bx : ∀ b cs, b ∉ W -> τ.bx b = some cs -> σ.bx b = some cs /\ qcd τ cs
 bxW : ∀ b ∈ W, σ.bx b ≠ none /\ τ.bx b ≠ none
 ev : ∀ e x, τ.ev e = some x -> σ.ev e = some x /\ x.on = true /\ x.deep = true
theorem Rel.givenB {W : List Nat} {n0 : Nat -> Prop} {N : Nat} {σ τ : St} {g g' : Gh} {a : Act} {w w' : World} (hR : Rel n0 N σ g a w) (hn0 : LtK n0 w) (hK : KeptB W σ τ) {fp : List Nat} (hfp : ∀ b ∈ fp, ∃ e, σ.On e /\ τ.ev e = none /\ b ∈ g.φ e) (hbk : Bk (fun k => k < w.heap.size /\ k ∉ fp /\ ∀ b ∈ W, k ≠ g.β b) w w')
  {ev' : Nat -> Option Ev} {F : List Nat} (hn : New τ g (fun b => b ∈ fp \/ w.heap.size <= b) w' ev' g' F) (hW : ∀ b ∈ W, ∀ cs, τ.bx b = some cs -> ∃ vs ty, w'.heap[g.β b]? = some (.cells vs ty (0, 0)) /\ CRs ⟨τ.sl, τ.bx, ev'⟩ g' w' cs vs.toList) : Rel n0 N ⟨τ.sl, τ.bx, ev'⟩ g' a w' := by
 have hOnσ : ∀ e, τ.On e -> σ.On e := fun e ⟨x, hx, ho⟩ => ⟨x, (hK.ev e x hx).1, ho⟩
 have hlt : ∀ e, σ.On e -> ∀ b ∈ g.φ e, b < w.heap.size := fun e ⟨x, hx, ho⟩ => (hR.evs e x hx ho).lt
 have hbne : ∀ b, τ.bx b ≠ none -> σ.bx b ≠ none := fun b hb => by
  by_cases hbW : b ∈ W
  ·exact (hK.bxW b hbW).1
  obtain ⟨cs, hcs⟩ := Option.ne_none_iff_exists'.1 hb
  rw [(hK.bx b cs hbW hcs).1]; simp
 have hfR : ∀ b ∈ fp, g.A0 b /\ g.R0 b /\ ¬ n0 b := fun b hb => by
  obtain ⟨e, ho, _, hm⟩ := hfp b hb
  obtain ⟨k1, k2⟩ := hR.ebase e ho b hm
  exact ⟨k1, k2, hR.etop e ho b hm⟩
 have hNB : ∀ b, (b ∈ fp \/ w.heap.size <= b) -> g.A0 b /\ g.R0 b /\ ¬ n0 b := fun b hb => by
  rcases hb with hb | hb
  ·exact hfR b hb
  ·have hnn := hn0.new hb
   exact ⟨(hR.anew b hnn).1, (hR.anew b hnn).2, hnn⟩
 have hβfp : ∀ b, τ.bx b ≠ none -> ¬ (g.β b ∈ fp \/ w.heap.size <= g.β b) := fun b hb h => by
  rcases h with h | h
  ·obtain ⟨e, ho, _, hm⟩ := hfp _ h
   exact hR.ebx e b ho (hbne b hb) hm
  ·have := hR.lt (hbne b hb); omega
 have hφfp : ∀ e, τ.On e -> ∀ b ∈ g.φ e, ¬ (b ∈ fp \/ w.heap.size <= b) := fun e ho b hb h => by
  rcases h with h | h
  ·obtain ⟨e', ho', hno, hm⟩ := hfp b h
   refine hR.apart e e' (hOnσ e ho) ho' (fun hee => ?_) b hb hm
   subst hee
   obtain ⟨x, hx, _⟩ := ho
   rw [hx] at hno; cases hno
  ·have := hlt e (hOnσ e ho) b hb; omega
 have hon : ∀ e, St.On ⟨τ.sl, τ.bx, ev'⟩ e -> τ.ev e ≠ none -> τ.On e := fun e ⟨x, hx, ho⟩ hee => ⟨x, (hn.old e hee).1.symm.trans hx, ho⟩
 have hkeep : ∀ b, b < w.heap.size -> b ∉ fp -> (∀ k ∈ W, b ≠ g.β k) -> w'.heap[b]? = w.heap[b]? := fun b h1 h2 h3 => hbk.block b ⟨h1, h2, h3⟩
 have hrn : ∀ b, zbr σ g w b -> w'.heap[b]? = w.heap[b]? /\ zbr ⟨τ.sl, τ.bx, ev'⟩ g' w' b := fun b hb => by
  obtain ⟨hf, hr⟩ := hb
  have hnb : ∀ e, St.On ⟨τ.sl, τ.bx, ev'⟩ e -> b ∉ g'.φ e := fun e ho hm => by
   by_cases hee : τ.ev e = none
   ·obtain ⟨x, hx, _⟩ := ho
    rcases ((hn.new e x hee hx).2.2.1 b hm).1 with h | h
    ·obtain ⟨e', ho', _, hm'⟩ := hfp b h
     exact hr e' ho' hm'
    ·have := hf.2.2.1; omega
   ·rw [(hn.old e hee).2.2] at hm
    exact hr e (hOnσ e (hon e ho hee)) hm
  refine ⟨hkeep b hf.2.2.1 (fun hm => by obtain ⟨e', ho', _, hm'⟩ := hfp b hm; exact hr e' ho' hm') (fun k hk e => hf.1 k (hK.bxW k hk).1 e.symm), ⟨fun k hk => by rw [hn.β]; exact hf.1 k (hbne k hk), fun e x hx hon' hh => hnb e ⟨x, hx, hon'⟩ (List.mem_of_mem_head? hh), Nat.lt_of_lt_of_le hf.2.2.1 hbk.size, by rw [hn.A0]; exact hf.2.2.2⟩, hnb⟩
 have hψ : ∀ e, τ.ev e ≠ none -> ev' e = τ.ev e /\ g'.ψ e = g.ψ e := fun e he => ⟨(hn.old e he).1, (hn.old e he).2.1⟩
 refine ⟨by rw [hR.defers], hR.size, by rw [hn.A0, hn.R0]; exact hR.anew, fun i => ?_, fun b cs hb => ?_, fun b hb => by rw [hn.β]; exact hR.base b (hbne b hb), fun b b' h1 h2 h3 => by rw [hn.β] at h3; exact hR.inj b b' (hbne b h1) (hbne b' h2) h3, fun e x he ho => ?_, fun e x he ho => ?_, hn.slc, fun e he b hb => ?_, fun e he b hb => ?_, fun e he => ?_, fun e e' h1 h2 hne b hb1 hb2 => ?_, fun e k he hk hm => ?_⟩
 ·rcases hK.sl i with h | ⟨h, hok⟩
  ·rw [show (⟨τ.sl, τ.bx, ev'⟩ : St).sl i = .one .any from h]; trivial
  ·rw [hn.R0]
   show VR _ g' w' (τ.sl i) _
   have hs := hR.slots i
   rw [<- h] at hs
   exact qeh hn.β hψ hrn hok hs
 ·by_cases hbW : b ∈ W
  ·rw [hn.β]; exact hW b hbW cs hb
  obtain ⟨hb1, hb2⟩ := hK.bx b cs hbW hb
  obtain ⟨vs, ty, k1, k2⟩ := hR.boxes b cs hb1
  have hne : τ.bx b ≠ none := by rw [show τ.bx b = some cs from hb]; simp
  have hnf := hβfp b hne
  exact ⟨vs, ty, by rw [hn.β, hkeep _ (hR.lt (hbne b hne)) (fun h => hnf (Or.inl h)) (fun k hk e => hbW (hR.inj b k (hbne b hne) (hK.bxW k hk).1 e ▸ hk))]; exact k1, zis hn.β hψ hrn hb2 k2⟩
 ·by_cases hee : τ.ev e = none
  ·obtain ⟨⟨k1, _, k0⟩, k2, k3, k4⟩ := hn.new e x hee he
   rw [k0]
   unfold zao at k2
   obtain ⟨ao, cap, j1, j2, j3, j4⟩ := k2
   refine ⟨ao, cap, j1, j2, j3, ?_⟩
   rcases j4 with j4 | ⟨b, cells, ty, fps, j4, j5, j6, j7, j8⟩
   ·exact Or.inl j4
   ·exact Or.inr ⟨b, cells, ty, fps, j4, j5, j6, j7, by rw [if_pos k1]; exact j8⟩
  ·obtain ⟨o1, o2, o3⟩ := hn.old e hee
   have hx : τ.ev e = some x := o1.symm.trans he
   obtain ⟨k1, k2, k3⟩ := hK.ev e x hx
   have hE := hR.evs e x k1 k2
   have hno := hφfp e ⟨x, hx, k2⟩
   have hl := hlt e ⟨x, k1, k2⟩
   have hkp : ∀ b ∈ g.φ e, w'.heap[b]? = w.heap[b]? := fun b hb => hkeep b (hl b hb) (fun h => hno b hb (Or.inl h)) fun k' hk' e => hR.ebx _ k' ⟨x, k1, k2⟩ (hK.bxW k' hk').1 (e ▸ hb)
   rw [o2, o3]
   obtain ⟨ao, cap, r1, r2, r3, r4⟩ := hE
   refine ⟨ao, cap, r1, r2, r3, ?_⟩
   rcases r4 with r4 | ⟨b, cells, ty, fps, r4, r5, r6, r7, r8⟩
   ·exact Or.inl r4
   ·rw [if_pos k3] at r8
    exact Or.inr ⟨b, cells, ty, fps, r4, r5, by rw [hkp b (by rw [r5]; simp)]; exact r6, r7, by rw [if_pos k3]; exact zag.keep cells 0 x.sz x.rows fps r8 fun b' hb' => hkp b' (by rw [r5]; simp [hb'])⟩
 ·by_cases hee : τ.ev e = none
  ·rw [(hn.new e x hee he).1.2.1] at ho; cases ho
  ·have hx : τ.ev e = some x := (hn.old e hee).1.symm.trans he
   rw [(hK.ev e x hx).2.1] at ho; cases ho
 ·rw [hn.A0, hn.R0]
  by_cases hee : τ.ev e = none
  ·obtain ⟨x, hx, _⟩ := he
   have := hNB b ((hn.new e x hee hx).2.2.1 b hb).1
   exact ⟨this.1, this.2.1⟩
  ·rw [(hn.old e hee).2.2] at hb
   exact hR.ebase e (hOnσ e (hon e he hee)) b hb
 ·by_cases hee : τ.ev e = none
  ·obtain ⟨x, hx, _⟩ := he
   exact (hNB b ((hn.new e x hee hx).2.2.1 b hb).1).2.2
  ·rw [(hn.old e hee).2.2] at hb
   exact hR.etop e (hOnσ e (hon e he hee)) b hb
 ·by_cases hee : τ.ev e = none
  ·obtain ⟨x, hx, _⟩ := he
   exact (hn.new e x hee hx).2.2.2
  ·rw [(hn.old e hee).2.2]
   exact hR.nodup e (hOnσ e (hon e he hee))
 ·by_cases hee : τ.ev e = none
  ·obtain ⟨x, hx, _⟩ := h1
   by_cases hee' : τ.ev e' = none
   ·obtain ⟨x', hx', _⟩ := h2
    exact hn.apart e e' hee hee' (by rw [show ev' e = some x from hx]; simp) (by rw [show ev' e' = some x' from hx']; simp) hne b hb1 hb2
   ·rw [(hn.old e' hee').2.2] at hb2
    exact hφfp e' (hon e' h2 hee') b hb2 ((hn.new e x hee hx).2.2.1 b hb1).1
  ·rw [(hn.old e hee).2.2] at hb1
   by_cases hee' : τ.ev e' = none
   ·obtain ⟨x', hx', _⟩ := h2
    exact hφfp e (hon e h1 hee) b hb1 ((hn.new e' x' hee' hx').2.2.1 b hb2).1
   ·rw [(hn.old e' hee').2.2] at hb2
    exact hR.apart e e' (hOnσ e (hon e h1 hee)) (hOnσ e' (hon e' h2 hee')) hne b hb1 hb2
 ·rw [hn.β] at hm
  by_cases hee : τ.ev e = none
  ·obtain ⟨x, hx, _⟩ := he
   exact hβfp k hk ((hn.new e x hee hx).2.2.1 _ hm).1
  ·rw [(hn.old e hee).2.2] at hm
   exact hR.ebx e k (hOnσ e (hon e he hee)) (hbne k hk) hm
def mtK (W : List Nat) : List AF -> List V -> (List V -> Prop) -> Prop
 | [], [], K => K []
 | .d _ _ :: l, v :: vs, K => mtK W l vs fun u => K (v :: u)
 | .p j :: l, .one (.bx b o) :: vs, K => W[j]? = some b /\ o = 0 /\ mtK W l vs K
 | .fn g js :: l, .one (.fn g' bs) :: vs, K => g' = g /\ js.map (fun j => W[j]?) = bs.map some /\ mtK W l vs K
 | _, _, _ => False
theorem zyt {g : Gh} {W : List Nat} {bs : Nat -> Nat} (hb : ∀ j b, W[j]? = some b -> bs j = g.β b) : ∀ (js bs' : List Nat), js.map (fun j => W[j]?) = bs'.map some -> bs'.map (fun b => Value.pointer (some ⟨g.β b, 0, none⟩)) = js.map fun j => zzk (bs j)
 | [], [], _ => rfl
 | [], _ :: _, e => by cases e
 | _ :: _, [], e => by cases e
 | j :: js, b :: bs', e => by
  simp only [List.map_cons, List.cons.injEq] at e
  rw [List.map_cons, List.map_cons, zyt hb js bs' e.2, hb j b e.1]
  rfl
theorem zef {σ : St} {g : Gh} {w : World} {W : List Nat} {bs : Nat -> Nat} (hb : ∀ j b, W[j]? = some b -> bs j = g.β b) : ∀ {l : List AF} {xs : List V} {K : List V -> Prop} {vs : List Value}, mtK W l xs K -> VRl σ g w xs vs →
  ∃ us dvs, K us /\ VRl σ g w us dvs /\ dvs.length = (AF.ds l).length /\ vs = AF.vals bs l dvs
 | [], [], K, vs, h, hv => ⟨[], [], h, rfl, rfl, hv⟩
 | .d _ _ :: l, x :: xs, K, vs, h, hv => by
  obtain ⟨v, vs', rfl, h1, h2⟩ := hv
  obtain ⟨us, dvs, k1, k2, k3, k4⟩ := zef hb (l := l) h h2
  exact ⟨x :: us, v :: dvs, k1, ⟨v, dvs, rfl, h1, k2⟩, by simp [AF.ds, k3], by rw [k4]; rfl⟩
 | .p j :: l, .one (.bx b o) :: xs, K, vs, h, hv => by
  obtain ⟨v, vs', rfl, h1, h2⟩ := hv
  obtain ⟨e1, rfl, h⟩ := h
  obtain ⟨us, dvs, k1, k2, k3, k4⟩ := zef hb (l := l) h h2
  refine ⟨us, dvs, k1, k2, k3, ?_⟩
  have h1 : CR σ g w (.bx b 0) v := h1
  rw [k4, h1.1, <- hb j b e1]
  rfl
 | .fn f js :: l, .one (.fn f' bs') :: xs, K, vs, h, hv => by
  obtain ⟨v, vs', rfl, h1, h2⟩ := hv
  obtain ⟨rfl, e1, h⟩ := h
  obtain ⟨us, dvs, k1, k2, k3, k4⟩ := zef hb (l := l) h h2
  refine ⟨us, dvs, k1, k2, k3, ?_⟩
  have h1 : CR σ g w (.fn f' bs') v := h1
  rw [k4, h1.1]
  rw [zyt hb js bs' e1]
  rfl
 | .d _ _ :: _, [], _, _, h, _ => h.elim
 | .p _ :: _, [], _, _, h, _ => h.elim
 | .fn _ _ :: _, [], _, _, h, _ => h.elim
 | [], _ :: _, _, _, h, _ => h.elim
 | .p _ :: _, .agg _ :: _, _, _, h, _ => h.elim
 | .p _ :: _, .tup _ :: _, _, _, h, _ => h.elim
 | .fn _ _ :: _, .agg _ :: _, _, _, h, _ => h.elim
 | .fn _ _ :: _, .tup _ :: _, _, _, h, _ => h.elim
 | .p _ :: _, .one (.t _) :: _, _, _, h, _ => h.elim
 | .p _ :: _, .one (.nl _) :: _, _, _, h, _ => h.elim
 | .p _ :: _, .one (.ow _ _) :: _, _, _, h, _ => h.elim
 | .p _ :: _, .one (.el _ _) :: _, _, _, h, _ => h.elim
 | .p _ :: _, .one (.eo _ _ _ _ _) :: _, _, _, h, _ => h.elim
 | .p _ :: _, .one (.fn _ _) :: _, _, _, h, _ => h.elim
 | .p _ :: _, .one (.cv _) :: _, _, _, h, _ => h.elim
 | .p _ :: _, .one .any :: _, _, _, h, _ => h.elim
 | .p _ :: _, .one (.rn _) :: _, _, _, h, _ => h.elim
 | .p _ :: _, .one (.er _ _) :: _, _, _, h, _ => h.elim
 | .fn _ _ :: _, .one (.t _) :: _, _, _, h, _ => h.elim
 | .fn _ _ :: _, .one (.nl _) :: _, _, _, h, _ => h.elim
 | .fn _ _ :: _, .one (.ow _ _) :: _, _, _, h, _ => h.elim
 | .fn _ _ :: _, .one (.el _ _) :: _, _, _, h, _ => h.elim
 | .fn _ _ :: _, .one (.eo _ _ _ _ _) :: _, _, _, h, _ => h.elim
 | .fn _ _ :: _, .one (.bx _ _) :: _, _, _, h, _ => h.elim
 | .fn _ _ :: _, .one (.cv _) :: _, _, _, h, _ => h.elim
 | .fn _ _ :: _, .one .any :: _, _, _, h, _ => h.elim
 | .fn _ _ :: _, .one (.rn _) :: _, _, _, h, _ => h.elim
 | .fn _ _ :: _, .one (.er _ _) :: _, _, _, h, _ => h.elim
def ztr (σ : St) : List Nat -> Bxs -> (List V -> Prop) -> Prop
 | [], [], K => K []
 | k :: W, b :: bx, K => zam (σ.bx k) fun cs => cs.length = b.length /\ ztr σ W bx fun l => K (cs.map .one ++ l)
 | _, _, _ => False
theorem zgh {n0 : Nat -> Prop} {N : Nat} {σ : St} {g : Gh} {a : Act} {w : World} (hR : Rel n0 N σ g a w) {bs : Nat -> Nat} : ∀ {W : List Nat} {bx : Bxs} {j : Nat} {K : List V -> Prop}, (∀ i b, W[i]? = some b -> bs (j + i) = g.β b) -> ztr σ W bx K →
  ∃ l bvs, K l /\ VRl σ g w l bvs.flatten /\ zom w bs j bvs bx /\ W.length = bx.length /\ ∀ b ∈ W, σ.bx b ≠ none
 | [], [], j, K, _, h => ⟨[], [], h, rfl, trivial, rfl, fun b hb => by simp at hb⟩
 | k :: W, b :: bx, j, K, hb, h => by
  obtain ⟨cs, h1, h2, h3⟩ := zal h
  obtain ⟨l, bvs, k1, k2, k3, k4, k5⟩ := zgh hR (W := W) (bx := bx) (j := j + 1) (fun i b hi => by have := hb (i + 1) b (by simpa using hi); rw [show j + (i + 1) = j + 1 + i by omega] at this; exact this) h3
  obtain ⟨us, ty, j1, j2⟩ := hR.boxes k cs h1
  have hk := hb 0 k rfl
  rw [Nat.add_zero] at hk
  refine ⟨_, us.toList :: bvs, k1, VRl.append j2.ones k2, ⟨by rw [j2.len, h2], ⟨ty, by rw [hk]; exact j1⟩, k3⟩, by simp [k4], fun x hx => ?_⟩
  rcases List.mem_cons.1 hx with rfl | hx
  ·rw [h1]; simp
  ·exact k5 x hx
 | [], _ :: _, _, _, _, h => h.elim
 | _ :: _, [], _, _, _, h => h.elim
theorem zxx {σ : St} {K K' : List V -> Prop} (hK : ∀ l, K l -> K' l) : ∀ {W : List Nat} {bx : Bxs}, ztr σ W bx K -> ztr σ W bx K' := fun {W} => by
 induction W generalizing K K' with
 | nil => intro bx h; cases bx with
  | nil => exact hK _ h
  | cons _ _ => exact h.elim
 | cons k W ih => intro bx h; cases bx with
  | nil => exact h.elim
  | cons b bx =>
   obtain ⟨cs, h1, h2, h3⟩ := zal h
   show zam (σ.bx k) _
   rw [h1]
   exact ⟨h2, ih (fun l => hK _) h3⟩
theorem zr9 {W : List Nat} : ∀ {l : List AF} {xs : List V} {K K' : List V -> Prop}, (∀ u, K u -> K' u) -> mtK W l xs K -> mtK W l xs K' := fun {l} => by
 induction l with
 | nil => intro xs K K' hK h; cases xs with
  | nil => exact hK _ h
  | cons _ _ => exact h.elim
 | cons a l ih => intro xs K K' hK h; cases xs with
  | nil => cases a <;> exact h.elim
  | cons x xs =>
   cases a with
   | d b y => exact ih (fun u => hK _) h
   | p j =>
    cases x with
    | one c => cases c <;> first | exact h.elim | exact ⟨h.1, h.2.1, ih hK h.2.2⟩
    | agg _ => exact h.elim
    | tup _ => exact h.elim
   | fn g js =>
    cases x with
    | one c => cases c <;> first | exact h.elim | exact ⟨h.1, h.2.1, ih hK h.2.2⟩
    | agg _ => exact h.elim
    | tup _ => exact h.elim
def ze1 (d : Nat) : Nat -> List Nat -> Bxs -> (Nat -> Option (List C)) -> (Nat -> Option (List C))
 | m, k :: W, b :: bx, f => upd (ze1 d (m + b.length) W bx f) k (some (mC d m b))
 | _, _, _, f => f
theorem zhk (d : Nat) : ∀ (W : List Nat) (bx : Bxs) (m : Nat) (f : Nat -> Option (List C)) (b : Nat), b ∉ W -> ze1 d m W bx f b = f b
 | [], _, _, _, _, _ => by unfold ze1; rfl
 | k :: W, [], _, _, _, _ => by unfold ze1; rfl
 | k :: W, c :: bx, m, f, b, hb => by
  unfold ze1
  rw [zah _ _ (fun e => hb (by simp [e]))]
  exact zhk d W bx _ f b fun h => hb (by simp [h])
theorem zov (d : Nat) : ∀ (W : List Nat) (bx : Bxs) (m : Nat) (f : Nat -> Option (List C)) (b : Nat), W.length = bx.length -> b ∈ W -> ze1 d m W bx f b ≠ none
 | [], _, _, _, _, _, hb => by simp at hb
 | k :: W, [], _, _, _, hl, _ => by simp at hl
 | k :: W, c :: bx, m, f, b, hl, hb => by
  unfold ze1
  by_cases h : b = k
  ·subst h; rw [zac]; simp
  ·rw [zah _ _ h]
   exact zov d W bx _ f b (by simpa using hl) ((List.mem_cons.1 hb).resolve_left h)
theorem zgm {σ : St} {g : Gh} {w : World} {bs : Nat -> Nat} (d : Nat) {β : Nat -> Nat} : ∀ (W : List Nat) (bx : Bxs) (bvs : List (List Value)) (j m : Nat) (f : Nat -> Option (List C)), (∀ i b, W[i]? = some b -> bs (j + i) = β b) -> zom w bs j bvs bx -> CRs σ g w (mC d m bx.flatten) bvs.flatten -> W.length = bx.length →
  ∀ b ∈ W, ∀ cs, ze1 d m W bx f b = some cs -> ∃ vs ty, w.heap[β b]? = some (.cells vs ty (0, 0)) /\ CRs σ g w cs vs.toList
 | [], _, _, _, _, _, _, _, _, _, b, hb, _, _ => by simp at hb
 | k :: W, [], _, _, _, _, _, _, _, hl, _, _, _, _ => by simp at hl
 | k :: W, c :: bx, [], _, _, _, _, h0, _, _, _, _, _, _ => h0.elim
 | k :: W, c :: bx, vs :: bvs, j, m, f, hβ, h0, hc, hl, b, hb, cs, hs => by
  obtain ⟨h1, ⟨ty, h2⟩, h3⟩ := h0
  rw [List.flatten_cons, List.flatten_cons, zem] at hc
  obtain ⟨v1, v2, e, c1, c2⟩ := hc.split
  obtain ⟨e1, e2⟩ := List.append_inj e (by rw [c1.len, zn1, h1])
  subst e1 e2
  unfold ze1 at hs
  by_cases h : b = k
  ·subst h
   rw [zac] at hs
   cases hs
   have := hβ 0 b rfl
   rw [Nat.add_zero] at this
   exact ⟨⟨vs⟩, ty, by rw [<- this]; exact h2, c1⟩
  ·rw [zah _ _ h] at hs
   exact zgm d W bx bvs (j + 1) (m + c.length) f (fun i b hi => by have := hβ (i + 1) b (by simpa using hi); rw [show j + (i + 1) = j + 1 + i by omega] at this; exact this) h3 c2 (by simpa using hl) b ((List.mem_cons.1 hb).resolve_left h) cs hs
def St.callP (σ : St) (d : Nat) (W : List Nat) (bx' : Bxs) (res : List (Bool × D)) : St := { sl := upd σ.sl d (zk6 (mD d 0 res)), bx := ze1 d (za3 res).length W bx' σ.bx, ev := mE d 0 (za3 res ++ bx'.flatten) σ.ev }
theorem CRs.split_flat {σ : St} {g : Gh} {w w' : World} {A : Nat -> Prop} {d m : Nat} {l : List (Bool × T)} {c : Bxs} {us vs : List Value} (h : CRs σ g w (mC d 0 (l ++ c.flatten)) (us ++ vs)) (hl : us.length = l.length) : CRs σ g w (mC d 0 l) us /\ CRs σ g w (mC d l.length c.flatten) vs := by
 rw [zem] at h
 obtain ⟨v1, v2, e, c1, c2⟩ := h.split
 obtain ⟨e1, e2⟩ := List.append_inj e (by rw [c1.len, zn1, hl])
 subst e1 e2
 rw [Nat.zero_add] at c2
 exact ⟨c1, c2⟩
theorem zas.one_vals {w : World} {A : Nat -> Prop} : ∀ {ds : List (Bool × D)} {vs : List Value} {fp tp : List Nat}, zas w A ds vs fp tp -> (vs.flatMap fun u => u.cells.toList).length = (za3 ds).length := fun {ds vs fp tp} h => by
 obtain ⟨tp', h'⟩ := h.flat
 rw [zas.len h']
 unfold bxA
 rw [List.length_map]
theorem zvf {W : List Nat} {o : Oper} {σ : St} {τs : Nat -> V} {τe : Nat -> Option Ev} {τb : Nat -> Option (List C)} {x : Operand} {asx : Array Operand} {ts : Array TypeId} {f : FuncId} {cvs : List V} {d : Nat} {bx bx' : Bxs} {l : List AF} {res : List (Bool × D)} {ps : List (Nat × Nat × Nat)} (ho : o.op = .call ⟨.value x, asx, ts⟩) (hd : o.dst = some d)
  (h : PC P f bx l bx' res) (hc : zat (σ.get P 0 x) = some (f, cvs)) (hK : KeptB W σ ⟨τs, ze1 d (za3 res).length W bx' τb, τe⟩) (hWn : W.Nodup)
  (hv : mtK W l (σ.gets P asx ts ++ cvs) fun us => ztr σ W bx fun cs => gvA σ (fun u => ∀ s ∈ u, τe s.1 = none) [] ps (us ++ cs) (AF.ds l ++ bxA bx.flatten)) (hf : mF d 0 (za3 res ++ bx'.flatten) τe) : zae P o σ (St.callP ⟨τs, τb, τe⟩ d W bx' res) := by
 intro n0 N g a w hR hn hdN
 obtain ⟨vs, h1, h2⟩ := zcj hR ho hc h.1
 unfold Oper.wp
 rw [h1]
 obtain ⟨B, hB⟩ := hR.fam
 let bs : Nat -> Nat := fun j => g.β (W.getD j 0)
 have hbs : ∀ j b, W[j]? = some b -> bs j = g.β b := fun j b hj => by show g.β (W.getD j 0) = _; rw [List.getD_eq_getElem?_getD, hj]; rfl
 obtain ⟨us, dvs, a1, a2, a3, rfl⟩ := zef hbs hv h2
 obtain ⟨cs, bvs, b1, b2, b3, b4, b5⟩ := zgh hR (bs := bs) (j := 0) (fun i b hi => by rw [Nat.zero_add]; exact hbs i b hi) a1
 obtain ⟨s, k1, ⟨tp, k2⟩, k3, k4⟩ := zdz hR hB b1 (VRl.append a2 b2)
 rw [List.append_nil] at k1 k4
 have hsp : s.Pairwise okP := (List.pairwise_reverse.1 (k4 List.Pairwise.nil)).imp fun h => h.symm
 have hnd := zc2 hR hB k3 hsp
 have hfp : ∀ b ∈ bks B s, ∃ e, σ.On e /\ τe e = none /\ b ∈ g.φ e := fun b hb => by
  obtain ⟨x, hx, hm⟩ := List.mem_flatMap.1 hb
  exact ⟨x.1, k3 x hx, k1 x (List.mem_reverse.2 hx), hB.sub x.1 x.2 b (k3 x hx) hm⟩
 have hfn : ∀ b, zbr σ g w b -> b ∉ bks B s := fun b hb hm => by obtain ⟨e, h1, _, h3⟩ := hfp b hm; exact hb.2 e h1 h3
 have hWj : ∀ j, j < bx.length -> ∃ b, W[j]? = some b /\ b ∈ W /\ bs j = g.β b := fun j hj => by
  have hlt : j < W.length := by omega
  exact ⟨W[j], List.getElem?_eq_getElem hlt, List.getElem_mem hlt, hbs j _ (List.getElem?_eq_getElem hlt)⟩
 have hWb : ∀ b ∈ W, ∃ j, j < bx.length /\ bs j = g.β b := fun b hb => by
  obtain ⟨j, hj, rfl⟩ := List.getElem_of_mem hb
  exact ⟨j, by omega, hbs j _ (List.getElem?_eq_getElem hj)⟩
 have hinj : ∀ i j, i < bx.length -> j < bx.length -> bs i = bs j -> i = j := fun i j hi hj he => by
  obtain ⟨b, e1, e2, e3⟩ := hWj i hi
  obtain ⟨c, f1, f2, f3⟩ := hWj j hj
  have : b = c := hR.inj b c (b5 b e2) (b5 c f2) (by rw [<- e3, <- f3]; exact he)
  subst this
  have hi' : i < W.length := by omega
  have hj' : j < W.length := by omega
  rw [List.getElem?_eq_getElem hi'] at e1
  rw [List.getElem?_eq_getElem hj'] at f1
  exact (List.getElem_inj hWn).1 ((Option.some.inj e1).trans (Option.some.inj f1).symm)
 have hbf : ∀ j, j < bx.length -> bs j ∉ bks B s := fun j hj hm => by
  obtain ⟨b, _, e2, e3⟩ := hWj j hj
  obtain ⟨e, h1, _, h3⟩ := hfp _ hm
  exact hR.ebx e b h1 (b5 b e2) (e3 ▸ h3)
 have hfb : ∀ b, zbr σ g w b -> ∀ j, j < bx.length -> b ≠ bs j := fun b hb j hj e => by
  obtain ⟨c, _, e2, e3⟩ := hWj j hj
  exact hb.1.1 c (b5 c e2) (by rw [<- e3, e])
 refine (h.2.2 w bs bvs dvs (bks B s) tp (zbr σ g w) hinj hbf b3 (zas.keepA (fun b hb => ⟨⟨hb.1.2.2.1, hfn b hb, hfb b hb⟩, hb⟩) k2) hnd a3).mono ?_
 rintro e w' ⟨us', bvs', fp', tp', rfl, hbx', hlu, o1, o2, o3, hbk⟩
 obtain ⟨v1, v2, f1, f2, t1, t2, ev, ef, et, p1, p2⟩ := zas.split o1
 obtain ⟨rfl, rfl⟩ := List.append_inj ev (by rw [hlu, zas.len p1])
 subst ef
 obtain ⟨t1', p1'⟩ := p1.flat
 have pp := zas.append p1' p2
 rw [<- zew] at pp
 have hnew := New.refl ⟨τs, ze1 d (za3 res).length W bx' τb, τe⟩ g (fun b => b ∈ bks B s \/ w.heap.size <= b) w' hR.slc
 obtain ⟨g', q1, q2, q3⟩ := New.mix (τ := ⟨τs, ze1 d (za3 res).length W bx' τb, τe⟩) (g := g) (NB := fun b => b ∈ bks B s \/ w.heap.size <= b) (w' := w') d (za3 res ++ bx'.flatten) _ (f1 ++ f2) _ 0 τe g [] hnew hf pp o2 (fun b hb' => ⟨o3 b hb', by simp⟩)
 have hbk' : Bk (fun k => k < w.heap.size /\ k ∉ bks B s /\ ∀ b ∈ W, k ≠ g.β b) w w' := ⟨hbk.os, hbk.tape, hbk.output, hbk.size, fun k hk => hbk.block k ⟨hk.1, hk.2.1, fun j hj e => by
  obtain ⟨c, _, e2, e3⟩ := hWj j hj
  exact hk.2.2 c e2 (by rw [<- e3, e])⟩⟩
 have hfree : ∀ k, ((k < w'.heap.size /\ k ∉ f1 ++ f2 /\ ∀ j, j < bx.length -> k ≠ bs j) /\ (zbr σ g w k \/ w.heap.size <= k \/ k ∈ bks B s)) -> zbr ⟨τs, ze1 d (za3 res).length W bx' τb, mE d 0 (za3 res ++ bx'.flatten) τe⟩ g' w' k := fun k hk => by
  have hOnσ : ∀ e, St.On ⟨τs, ze1 d (za3 res).length W bx' τb, τe⟩ e -> σ.On e := fun e ⟨x, hx, ho⟩ => ⟨x, (hK.ev e x hx).1, ho⟩
  have hno : ∀ e, St.On ⟨τs, ze1 d (za3 res).length W bx' τb, mE d 0 (za3 res ++ bx'.flatten) τe⟩ e -> k ∉ g'.φ e := fun e ho' hm => by
   by_cases hee : τe e = none
   ·obtain ⟨x, hx, _⟩ := ho'
    have := ((q1.new e x hee hx).2.2.1 k hm).2
    rw [List.nil_append] at this
    exact hk.1.2.1 this
   ·rw [(q1.old e hee).2.2] at hm
    obtain ⟨x, hx, hon⟩ := ho'
    have ho2 : St.On ⟨τs, ze1 d (za3 res).length W bx' τb, τe⟩ e := ⟨x, (q1.old e hee).1.symm.trans hx, hon⟩
    rcases hk.2 with h | h | h
    ·exact h.2 e (hOnσ e ho2) hm
    ·obtain ⟨y, hy, hyo⟩ := hOnσ e ho2
     have := (hR.evs e y hy hyo).lt k hm; omega
    ·obtain ⟨e', h1, h2, h3⟩ := hfp k h
     refine hR.apart e e' (hOnσ e ho2) h1 (fun ee => ?_) k hm h3
     subst ee
     obtain ⟨y, hy, _⟩ := ho2
     have hy : τe e = some y := hy
     rw [h2] at hy; cases hy
  have hbne : ∀ b, ze1 d (za3 res).length W bx' τb b ≠ none -> σ.bx b ≠ none := fun b hb => by
   by_cases hbW : b ∈ W
   ·exact (hK.bxW b hbW).1
   obtain ⟨cs, hcs⟩ := Option.ne_none_iff_exists'.1 hb
   rw [(hK.bx b cs hbW hcs).1]; simp
  refine ⟨⟨fun j hj e => ?_, fun e x hx hon hh => hno e ⟨x, hx, hon⟩ (List.mem_of_mem_head? hh), hk.1.1, ?_⟩, hno⟩
  ·have hj' := hbne j hj
   rw [q1.β] at e
   rcases hk.2 with h | h | h
   ·exact h.1.1 j hj' e
   ·have := hR.lt hj'; omega
   ·obtain ⟨e', h1, _, h3⟩ := hfp k h
    exact hR.ebx e' j h1 hj' (e ▸ h3)
  ·rw [q1.A0]
   rcases hk.2 with h | h | h
   ·exact h.1.2.2.2
   ·exact (hR.anew k (hn.new h)).1
   ·obtain ⟨e', h1, _, h3⟩ := hfp k h
    exact (hR.ebase e' h1 k h3).1
 have hcr := q3 ⟨τs, ze1 d (za3 res).length W bx' τb, mE d 0 (za3 res ++ bx'.flatten) τe⟩ w' rfl fun t v h => zai.keep (fun _ _ => rfl) hfree t v h
 obtain ⟨hc1, hc2⟩ := hcr.split_flat (A := fun _ => True) (w' := w') (m := 0) (zas.one_vals p1)
 have hR' := hR.givenB hn hK (fun b hb => by obtain ⟨e, x1, x2, x3⟩ := hfp b hb; exact ⟨e, x1, x2, x3⟩) hbk' q1 (zgm d W bx' bvs' 0 (za3 res).length τb (fun i b hi => by rw [Nat.zero_add]; exact hbs i b hi) hbx' hc2 (by rw [h.2.1]; omega))
 have hBk : Bk n0 w w' := ⟨hbk.os, hbk.tape, hbk.output, hbk.size, fun k hk => hbk.block k ⟨hn k hk, fun hm => by
  obtain ⟨e, h1, _, h3⟩ := hfp k hm
  exact hR.etop e h1 k h3 hk, fun j hj e => by
  obtain ⟨c, _, e2, e3⟩ := hWj j hj
  exact hR.base c (b5 c e2) (by rw [<- e3, <- e]; exact hk)⟩⟩
 refine ⟨g', ?_, hBk, q1.A0, q1.R0⟩
 have hp := hR'.put (some d) (x := zk6 (mD d 0 res)) (v := zbk us') (zd1 (zol d 0 p1 hc1) (zlx d res 0)) (fun i hi => by cases hi; exact hdN d hd)
 rw [hd]
 exact hp
end Go.Proofs.YtaaniggpnljckaaGreat
namespace Go.Proofs.YtaaniggpnljckaaGreat
set_option linter.unusedSimpArgs false
set_option linter.unusedVariables false
set_option linter.unusedSectionVars false
set_option maxRecDepth 4000
open Go.RowKit
variable {P : Program}
def subN : List Nat -> List Nat -> Prop
 | [], _ => True
 | x :: xs, l => noK x l = false /\ subN xs l
theorem zy8 : ∀ {x : Nat} {l : List Nat}, noK x l = false -> x ∈ l
 | _, [], h => by cases h
 | x, y :: l, h => by
  unfold noK at h
  by_cases e : x = y
  ·simp [e]
  ·rw [if_neg e] at h; exact List.mem_cons_of_mem _ (zy8 h)
theorem zhc : ∀ {xs l : List Nat}, subN xs l -> ∀ x ∈ xs, x ∈ l
 | [], _, _, x, hx => by simp at hx
 | y :: xs, l, h, x, hx => by
  rcases List.mem_cons.1 hx with rfl | hx
  ·exact zy8 h.1
  ·exact zhc h.2 x hx
theorem zht {σ : St} : ∀ (L : List Nat) (i : Nat), (i ∈ L -> ze0 (σ.lL L) i = σ.sl i) /\ (i ∉ L -> ze0 (σ.lL L) i = .one .any)
 | [], i => ⟨fun h => by simp at h, fun _ => rfl⟩
 | j :: L, i => by
  show (_ -> (if i = j then σ.sl j else ze0 (σ.lL L) i) = _) /\ (_ -> (if i = j then σ.sl j else ze0 (σ.lL L) i) = _)
  by_cases h : i = j
  ·subst h; rw [if_pos rfl]; exact ⟨fun _ => rfl, fun h => by simp at h⟩
  ·rw [if_neg h]
   exact ⟨fun hm => (zht L i).1 ((List.mem_cons.1 hm).resolve_left h), fun hm => (zht L i).2 fun h' => hm (List.mem_cons_of_mem _ h')⟩
theorem zdw {α : Type} (f : Nat -> α) : ∀ (L : List Nat) (i : Nat), (i ∈ L -> tbl (L.map fun b => (b, f b)) i = some (f i)) /\ (i ∉ L -> tbl (L.map fun b => (b, f b)) i = none)
 | [], i => ⟨fun h => by simp at h, fun _ => rfl⟩
 | j :: L, i => by
  show (_ -> (if i = j then some (f j) else tbl (L.map fun b => (b, f b)) i) = _) /\ (_ -> (if i = j then some (f j) else tbl (L.map fun b => (b, f b)) i) = _)
  by_cases h : i = j
  ·subst h; rw [if_pos rfl]; exact ⟨fun _ => rfl, fun h => by simp at h⟩
  ·rw [if_neg h]
   exact ⟨fun hm => (zdw f L i).1 ((List.mem_cons.1 hm).resolve_left h), fun hm => (zdw f L i).2 fun h' => hm (List.mem_cons_of_mem _ h')⟩
def blank (W : List Nat) (f : Nat -> Option (List C)) : Nat -> Option (List C)
 | b => if noK b W = true then f b else some []
theorem qcf (W : List Nat) (f : Nat -> Option (List C)) (b : Nat) : blank W f b = if noK b W = true then f b else some [] := rfl
def St.wB (σ : St) (W : List Nat) : St := ⟨σ.sl, blank W σ.bx, σ.ev⟩
def St.BW (σ : St) (L W : List Nat) : List Nat := dif W ((σ.wB W).KB L)
def St.EW (σ : St) (L W : List Nat) : List Nat := (σ.wB W).KE L
def St.hW (σ : St) (L W : List Nat) : St := ⟨ze0 (σ.lL L), tbl (σ.lB (σ.BW L W)), tbl (σ.lE (σ.EW L W))⟩
section
variable {ks : List Fr} {Q : Exit -> St -> Prop} {σ : St} {ops : Array Oper} {os : List Oper} {ty : TypeId} {ps : String} {af : Array Edge} {d : Nat} {x : Operand} {asx : Array Operand} {ts : Array TypeId} {f : FuncId} {bx bx' : Bxs} {l : List AF} {res : List (Bool × D)}
theorem zaw (L A W : List Nat) (pl : List (Nat × Nat × Nat)) (h : PC P f bx l bx' res) (hWn : W.Nodup) (hWl : W.length = bx'.length) (hw : wkK σ (A ++ L))
  (hk : subN (σ.BW L W) (σ.KB (A ++ L)) /\ subN W (σ.KB (A ++ L)) /\ subN (σ.EW L W) (σ.KE (A ++ L)) /\ okL ⟨ze0 (σ.lL L), ze1 d (za3 res).length W bx' (tbl (σ.lB (σ.BW L W))), tbl (σ.lE (σ.EW L W))⟩ (σ.lL L) /\ okB ⟨ze0 (σ.lL L), ze1 d (za3 res).length W bx' (tbl (σ.lB (σ.BW L W))), tbl (σ.lE (σ.EW L W))⟩ (σ.lB (σ.BW L W)) /\ okE (σ.lE (σ.EW L W)))
  (hp : zam (zat ((σ.hL (A ++ L)).get P 0 x)) fun p => p.1 = f /\ mtK W l ((σ.hL (A ++ L)).gets P asx ts ++ p.2) fun us => ztr (σ.hL (A ++ L)) W bx fun cs => gvA (σ.hL (A ++ L)) (zm9 (σ.lE (σ.EW L W))) [] pl (us ++ cs) (AF.ds l ++ bxA bx.flatten))
  (hf : mF d 0 (za3 res ++ bx'.flatten) (tbl (σ.lE (σ.EW L W))))
  (k : exo P ops os ks Q ((σ.hW L W).callP d W bx' res)) : exo P ops (⟨some d, .call ⟨.value x, asx, ts⟩, ty, ps, af, none⟩ :: os) ks Q σ := by
 obtain ⟨⟨f', cvs⟩, h1, rfl, h2⟩ := zal hp
 obtain ⟨k1, k2, k3, k4, k5, k6⟩ := hk
 have hK : KeptB W (σ.hL (A ++ L)) ⟨ze0 (σ.lL L), ze1 d (za3 res).length W bx' (tbl (σ.lB (σ.BW L W))), tbl (σ.lE (σ.EW L W))⟩ := by
  refine ⟨fun i => ?_, fun b cs hb hcs => ?_, fun b hb => ⟨?_, zov d W bx' _ _ b hWl hb⟩, fun e x he => ?_⟩
  ·by_cases hi : i ∈ L
   ·refine Or.inr ⟨?_, zkv k4 i⟩
    show ze0 (σ.lL L) i = ze0 (σ.lL (A ++ L)) i
    rw [(zht L i).1 hi, (zht (A ++ L) i).1 (List.mem_append_right _ hi)]
   ·exact Or.inl ((zht L i).2 hi)
  ·have hcs : ze1 d (za3 res).length W bx' (tbl (σ.lB (σ.BW L W))) b = some cs := hcs
   rw [zhk d W bx' _ _ b hb] at hcs
   by_cases hm : b ∈ σ.BW L W
   ·refine ⟨?_, zk0 k5 b cs hcs⟩
    have e1 := (zdw (fun b => (σ.bx b).getD []) (σ.BW L W) b).1 hm
    have e2 := (zdw (fun b => (σ.bx b).getD []) (σ.KB (A ++ L)) b).1 (zhc k1 b hm)
    have e1 : tbl (σ.lB (σ.BW L W)) b = some ((σ.bx b).getD []) := e1
    rw [e1] at hcs
    cases hcs
    exact e2
   ·have e1 := (zdw (fun b => (σ.bx b).getD []) (σ.BW L W) b).2 hm
    have e1 : tbl (σ.lB (σ.BW L W)) b = none := e1
    rw [e1] at hcs; cases hcs
  ·have e2 := (zdw (fun b => (σ.bx b).getD []) (σ.KB (A ++ L)) b).1 (zhc k2 b hb)
   have e2 : (σ.hL (A ++ L)).bx b = some ((σ.bx b).getD []) := e2
   rw [e2]; simp
  ·have he : tbl (σ.lE (σ.EW L W)) e = some x := he
   by_cases hm : e ∈ σ.EW L W
   ·refine ⟨?_, zj9 k6 e x he⟩
    have e1 := (zdw (fun e => (σ.ev e).getD ⟨false, 0, [], 0, false⟩) (σ.EW L W) e).1 hm
    have e2 := (zdw (fun e => (σ.ev e).getD ⟨false, 0, [], 0, false⟩) (σ.KE (A ++ L)) e).1 (zhc k3 e hm)
    have e1 : tbl (σ.lE (σ.EW L W)) e = some ((σ.ev e).getD ⟨false, 0, [], 0, false⟩) := e1
    rw [e1] at he
    cases he
    exact e2
   ·have e1 := (zdw (fun e => (σ.ev e).getD ⟨false, 0, [], 0, false⟩) (σ.EW L W) e).2 hm
    have e1 : tbl (σ.lE (σ.EW L W)) e = none := e1
    rw [e1] at he; cases he
 refine zca rfl rfl (zae.pre (wkK_wk hw) (zvf (P := P) (o := ⟨some d, .call ⟨.value x, asx, ts⟩, ty, ps, af, none⟩) rfl rfl h h1 hK hWn (ps := pl) ?_ hf)) k
 exact zr9 (fun us hu => zxx (fun cs hc => zeu (fun u hu => zft hu) hc) hu) h2
end
def ztj : Option (Nat × Ev × List (Nat × Ev)) -> List Ky
 | some (e, _, _) => [(2, e)]
 | none => []
def stoW : Option (Nat × Ev × List (Nat × Ev)) -> List (Nat × Ev)
 | some (e, y, cons) => (e, y) :: zq1 cons
 | none => []
theorem qbs {σ σ1 : St} {t : TypeId} {x y : Operand} (h : ∀ k ∈ zap [x, y] ++ (rK [(σ.get P t y).cells] ++ ztj (zn4 P σ t x y)), za0 σ σ1 k) {r : Nat × Ev × List (Nat × Ev)} (hr : zn4 P σ t x y = some r) : zn4 P σ1 t x y = some r := by
 have e1 : σ1.get P 0 x = σ.get P 0 x := zby (l := [x, y]) (fun k hk => h k (by simp [hk])) (by simp) 0
 have e2 : σ1.get P t y = σ.get P t y := zby (l := [x, y]) (fun k hk => h k (by simp [hk])) (by simp) t
 have e3 : zrn σ1 (σ.get P t y).cells = zrn σ (σ.get P t y).cells := zkh fun k hk => h k (by simp [rK, hk])
 rw [hr] at h
 rw [<- hr]
 unfold zn4 at hr ⊢
 rw [e1, e2]
 split at hr
 ·rename_i e g sz i o hx
  obtain ⟨z, hz, hr⟩ := Option.bind_eq_some_iff.1 hr
  obtain ⟨n, hn, hr⟩ := Option.bind_eq_some_iff.1 hr
  split at hr
  ·obtain ⟨q, _, hr⟩ := Option.map_eq_some_iff.1 hr
   subst hr
   have e4 : σ1.ev e = σ.ev e := Eq.symm (h (2, e) (by simp [ztj]))
   simp only [e4, e3]
  ·cases hr
 ·cases hr
section
variable {ks : List Fr} {Q : Exit -> St -> Prop} {σ : St} {ops : Array Oper} {os : List Oper} {L : List (List Ky × List Ky)} {ty : TypeId} {ps : String} {af : Array Edge} {ds : Option Nat} {x y : Operand} {t : TypeId}
theorem qbp (r : Option (Nat × Ev × List (Nat × Ev))) : okK (ztj r) = true := by
 cases r with
 | none => rfl
 | some r => rfl
theorem zvz (h : zam (zn4 P σ t x y) fun r => (r.2.2.map (·.1)).Nodup /\ ∀ p ∈ r.2.2, p.1 ≠ r.1)
  (k : exd P ops os (L ++ [(zap [x, y] ++ (rK [(σ.get P t y).cells] ++ ztj (zn4 P σ t x y)), dK ds ++ eK (stoW (zn4 P σ t x y)))]) ks Q ((σ.apdO (zn4 P σ t x y)).put ds (.one .any))) : exdS P ops ⟨ds, .store t x y, ty, ps, af, none⟩ os L ks Q σ := by
 obtain ⟨⟨e, z, cons⟩, h1, h2, h3⟩ := zal h
 refine ⟨_, _, _, ?_, k⟩
 have hloc : ∀ σ1, (∀ k ∈ zap [x, y] ++ (rK [(σ.get P t y).cells] ++ ztj (zn4 P σ t x y)), za0 σ σ1 k) -> zn4 P σ1 t x y = some (e, z, cons) := fun σ1 hs => qbs hs h1
 rw [h1]
 show zfg P _ _ (dK ds ++ eK ((e, z) :: zq1 cons)) σ ((σ.apd e cons z).put ds _)
 rw [zdd]
 rw [h1] at hloc
 refine zfg.of (o := ⟨ds, _, ty, ps, af, none⟩) (l := (e, z) :: zq1 cons) (za5 (zbp _) (za5 (zul _) (qbp _))) fun σ1 hs => ?_
 have hh := hloc σ1 hs
 have hs2 := zp3 (σ := σ1) (ty := ty) (ps := ps) (af := af) (ds := ds) (x := x) (y := y) (t := t) (P := P) (by rw [hh]; exact ⟨h2, h3⟩)
 rw [hh] at hs2
 have hs2 : zae P ⟨ds, .store t x y, ty, ps, af, none⟩ σ1 ((σ1.apd e cons z).put ds (.one .any)) := hs2
 rw [zdd] at hs2
 exact hs2
end
attribute [go_sem] ztj stoW AF.ds c1P zrb zih zcf zgy zgn bxE PB PB0 mtK ztr ze1 St.callP subN qcf St.wB St.BW St.EW St.hW bxA List.flatten_cons List.flatten_nil
end Go.Proofs.YtaaniggpnljckaaGreat
namespace Go.Proofs.YtaaniggpnljckaaGreat
set_option linter.unusedSimpArgs false
set_option linter.unusedVariables false
set_option linter.unusedSectionVars false
set_option maxRecDepth 4000
open Go.RowKit
variable {P : Program}
theorem Rel.afterB {W : List Nat} {bx' : Nat -> Option (List C)} {n0 : Nat -> Prop} {N : Nat} {σ : St} {g g' : Gh} {a : Act} {w w' : World} {ev' : Nat -> Option Ev} {F : List Nat} (h : Rel n0 N σ g a w) (hn0 : LtK n0 w) (hb : Bk (fun k => k < w.heap.size /\ ∀ b ∈ W, k ≠ g.β b) w w') (hdom : ∀ b, bx' b ≠ none ↔ σ.bx b ≠ none) (hsm : ∀ b, b ∉ W -> bx' b = σ.bx b) (hWσ : ∀ b ∈ W, σ.bx b ≠ none) (hn : New σ g (w.heap.size <= ·) w' ev' g' F) (hW : ∀ b ∈ W, ∀ cs, bx' b = some cs -> ∃ vs ty, w'.heap[g.β b]? = some (.cells vs ty (0, 0)) /\ CRs ⟨σ.sl, bx', ev'⟩ g' w' cs vs.toList) : Rel n0 N ⟨σ.sl, bx', ev'⟩ g' a w' := by
 have hlt : ∀ e x, σ.ev e = none -> ev' e = some x -> ∀ b ∈ g'.φ e, w.heap.size <= b := fun e x h1 h2 b hbb => ((hn.new e x h1 h2).2.2.1 b hbb).1
 have hold : ∀ e, σ.On e -> ∀ b ∈ g.φ e, b < w.heap.size := fun e he b hbb => by
  obtain ⟨x, hx, ho⟩ := he
  exact (h.evs e x hx ho).lt b hbb
 have hon : ∀ e, St.On ⟨σ.sl, bx', ev'⟩ e -> σ.ev e ≠ none -> σ.On e := fun e he hee => by
  obtain ⟨x, hx, ho⟩ := he
  exact ⟨x, (hn.old e hee).1.symm.trans hx, ho⟩
 have hne : ∀ e, St.On ⟨σ.sl, bx', ev'⟩ e -> ∃ x, ev' e = some x := fun e he => ⟨_, he.choose_spec.1⟩
 have m : Mv σ ⟨σ.sl, bx', ev'⟩ g g' w w' := by
  refine ⟨fun b hf => hb.block b ⟨hf.2.2.1, fun k hk e => hf.1 k (hWσ k hk) e.symm⟩, fun b hf => ⟨fun k hk => by rw [hn.β]; exact hf.1 k ((hdom k).1 hk), fun e x hx ho hh => ?_, Nat.lt_of_lt_of_le hf.2.2.1 hb.size, by rw [hn.A0]; exact hf.2.2.2⟩, fun b hbb => ⟨by rw [hn.β], (hdom b).2 hbb⟩, fun e n he => ?_, fun b hf e he hm => ?_⟩
  ·by_cases hee : σ.ev e = none
   ·have := hlt e x hee hx b (List.mem_of_mem_head? hh)
    have := hf.2.2.1
    omega
   ·rw [(hn.old e hee).2.2] at hh
    exact hf.2.1 e x ((hn.old e hee).1.symm.trans hx) ho hh
  ·obtain ⟨x, hx, hg⟩ := he
   have hee : σ.ev e ≠ none := by rw [hx]; simp
   exact ⟨⟨x, (hn.old e hee).1.trans hx, hg⟩, by rw [(hn.old e hee).2.1]⟩
  ·by_cases hee : σ.ev e = none
   ·obtain ⟨x, hx⟩ := hne e he
    have := hlt e x hee hx b hm
    have := hf.1.2.2.1
    omega
   ·rw [(hn.old e hee).2.2] at hm
    exact hf.2 e (hon e he hee) hm
 refine ⟨h.defers, h.size, by rw [hn.A0, hn.R0]; exact h.anew, fun i => by rw [hn.R0]; exact m.vr (h.slots i), fun b cs hbb => ?_, fun b hbb => by rw [hn.β]; exact h.base b ((hdom b).1 hbb), fun b b' h1 h2 h3 => by rw [hn.β] at h3; exact h.inj b b' ((hdom b).1 h1) ((hdom b').1 h2) h3, fun e x he ho => ?_, fun e x he ho => ?_, hn.slc, fun e he b hbb => ?_, fun e he b hbb => ?_, fun e he => ?_, fun e e' h1 h2 hne' b hb1 hb2 => ?_, fun e k he hk hm => ?_⟩
 ·by_cases hbW : b ∈ W
  ·rw [hn.β]; exact hW b hbW cs hbb
  have hbb : bx' b = some cs := hbb
  rw [hsm b hbW] at hbb
  obtain ⟨vs, ty, k1, k2⟩ := h.boxes b cs hbb
  have hne0 : σ.bx b ≠ none := by rw [hbb]; simp
  exact ⟨vs, ty, by rw [hn.β, hb.block _ ⟨h.lt hne0, fun k hk e => hbW (h.inj b k hne0 (hWσ k hk) e ▸ hk)⟩]; exact k1, m.crs k2⟩
 ·by_cases hee : σ.ev e = none
  ·obtain ⟨⟨k1, _, k0⟩, k2, k3, k4⟩ := hn.new e x hee he
   rw [k0]
   unfold zao at k2
   obtain ⟨ao, cap, j1, j2, j3, j4⟩ := k2
   refine ⟨ao, cap, j1, j2, j3, ?_⟩
   rcases j4 with j4 | ⟨b, cells, ty, fps, j4, j5, j6, j7, j8⟩
   ·exact Or.inl j4
   ·exact Or.inr ⟨b, cells, ty, fps, j4, j5, j6, j7, by rw [if_pos k1]; exact j8⟩
  ·have he' := he
   simp only [(hn.old e hee).1] at he
   rw [(hn.old e hee).2.1, (hn.old e hee).2.2]
   exact m.evr (h.evs e x he ho) fun b hbb => hb.block b ⟨hold e ⟨x, he, ho⟩ b hbb, fun k hk e' => h.ebx e k ⟨x, he, ho⟩ (hWσ k hk) (e' ▸ hbb)⟩
 ·by_cases hee : σ.ev e = none
  ·obtain ⟨⟨_, k1, _⟩, _⟩ := hn.new e x hee he
   rw [k1] at ho; cases ho
  ·simp only [(hn.old e hee).1] at he
   rw [(hn.old e hee).2.1]
   exact ⟨m.rep (h.offs e x he ho).1, (h.offs e x he ho).2⟩
 ·by_cases hee : σ.ev e = none
  ·obtain ⟨x, hx⟩ := hne e he
   rw [hn.A0, hn.R0]
   exact h.anew b (hn0.new (hlt e x hee hx b hbb))
  ·rw [(hn.old e hee).2.2] at hbb
   rw [hn.A0, hn.R0]
   exact h.ebase e (hon e he hee) b hbb
 ·by_cases hee : σ.ev e = none
  ·obtain ⟨x, hx⟩ := hne e he
   exact hn0.new (hlt e x hee hx b hbb)
  ·rw [(hn.old e hee).2.2] at hbb
   exact h.etop e (hon e he hee) b hbb
 ·by_cases hee : σ.ev e = none
  ·obtain ⟨x, hx⟩ := hne e he
   exact (hn.new e x hee hx).2.2.2
  ·rw [(hn.old e hee).2.2]; exact h.nodup e (hon e he hee)
 ·obtain ⟨x, hx⟩ := hne e h1
  obtain ⟨x', hx'⟩ := hne e' h2
  by_cases e1 : σ.ev e = none <;> by_cases e2 : σ.ev e' = none
  ·exact hn.apart e e' e1 e2 (by rw [hx]; simp) (by rw [hx']; simp) hne' b hb1 hb2
  ·rw [(hn.old e' e2).2.2] at hb2
   have := hlt e x e1 hx b hb1
   have := hold e' (hon e' h2 e2) b hb2
   omega
  ·rw [(hn.old e e1).2.2] at hb1
   have := hlt e' x' e2 hx' b hb2
   have := hold e (hon e h1 e1) b hb1
   omega
  ·rw [(hn.old e e1).2.2] at hb1
   rw [(hn.old e' e2).2.2] at hb2
   exact h.apart e e' (hon e h1 e1) (hon e' h2 e2) hne' b hb1 hb2
 ·rw [hn.β] at hm
  by_cases hee : σ.ev e = none
  ·obtain ⟨x, hx⟩ := hne e he
   have := hlt e x hee hx _ hm
   have := h.lt ((hdom k).1 hk)
   omega
  ·rw [(hn.old e hee).2.2] at hm
   exact h.ebx e k (hon e he hee) ((hdom k).1 hk) hm
def gvQ : List V -> List (Bool × D) -> Prop
 | [], [] => True
 | v :: vs, (false, d) :: ds => rdV v d /\ gvQ vs ds
 | .one (.t x) :: vs, (true, .one t) :: ds => x = t /\ t.flat = true /\ gvQ vs ds
 | _, _ => False
theorem zzv {w : World} {A : Nat -> Prop} {t : T} {v : Value} (hf : t.flat = true) (h : zai w A t v) : zao w t v [] /\ zg7 t [] = [] := by
 cases t <;> simp only [T.flat, Bool.false_eq_true] at hf
 ·unfold zai at h; unfold zao; exact ⟨⟨h.1, h.2.1, h.2.2, rfl⟩, rfl⟩
 ·unfold zai at h; unfold zao; exact ⟨⟨h, rfl⟩, rfl⟩
 ·unfold zai at h; unfold zao; exact ⟨⟨h.1, h.2, rfl⟩, rfl⟩
 ·unfold zai at h; unfold zao; exact ⟨⟨h, rfl⟩, rfl⟩
theorem zhr {σ : St} {g : Gh} {w : World} : ∀ {xs : List V} {ds : List (Bool × D)} {vs : List Value}, gvQ xs ds -> VRl σ g w xs vs -> zas w (zbr σ g w) ds vs [] []
 | [], [], vs, _, hv => ⟨hv, rfl, rfl⟩
 | [], _ :: _, _, h, _ => h.elim
 | x :: xs, [], _, h, _ => by cases x with
  | one c => cases c <;> exact h.elim
  | agg _ => exact h.elim
  | tup _ => exact h.elim
 | x :: xs, (false, d) :: ds, vs, h, hv => by
  obtain ⟨v, vs', rfl, h1, h2⟩ := hv
  have h : rdV x d /\ gvQ xs ds := by cases x with
   | one c => cases c <;> exact h
   | agg _ => exact h
   | tup _ => exact h
  exact ⟨v, vs', rfl, zwj h.1 h1, zhr h.2 h2⟩
 | .one (.t x) :: xs, (true, .one t) :: ds, vs, h, hv => by
  obtain ⟨v, vs', rfl, h1, h2⟩ := hv
  obtain ⟨rfl, hf, h⟩ := h
  obtain ⟨k1, k2⟩ := zzv hf h1
  exact ⟨v, vs', [], [], [], [], rfl, rfl, rfl, ⟨k1, k2.symm⟩, zhr h h2⟩
 | x :: _, (true, .agg _) :: _, _, h, _ => by cases x with
  | one c => cases c <;> exact h.elim
  | agg _ => exact h.elim
  | tup _ => exact h.elim
 | .one (.nl _) :: _, (true, .one _) :: _, _, h, _ => h.elim
 | .one (.ow _ _) :: _, (true, .one _) :: _, _, h, _ => h.elim
 | .one (.bx _ _) :: _, (true, .one _) :: _, _, h, _ => h.elim
 | .one (.el _ _) :: _, (true, .one _) :: _, _, h, _ => h.elim
 | .one (.eo _ _ _ _ _) :: _, (true, .one _) :: _, _, h, _ => h.elim
 | .one (.fn _ _) :: _, (true, .one _) :: _, _, h, _ => h.elim
 | .one (.cv _) :: _, (true, .one _) :: _, _, h, _ => h.elim
 | .one .any :: _, (true, .one _) :: _, _, h, _ => h.elim
 | .one (.rn _) :: _, (true, .one _) :: _, _, h, _ => h.elim
 | .one (.er _ _) :: _, (true, .one _) :: _, _, h, _ => h.elim
 | .agg _ :: _, (true, .one _) :: _, _, h, _ => h.elim
 | .tup _ :: _, (true, .one _) :: _, _, h, _ => h.elim
def ztn : List (Nat × List C) -> (Nat -> Option (List C)) -> (Nat -> Option (List C))
 | [], f => f
 | (k, cs) :: l, f => upd (ztn l f) k (some cs)
def boL (d : Nat) : Nat -> List Nat -> Bxs -> List (Nat × List C)
 | m, k :: W, b :: bx => (k, mC d m b) :: boL d (m + b.length) W bx
 | _, _, _ => []
theorem zrk (d : Nat) : ∀ (W : List Nat) (bx : Bxs) (m : Nat) (f : Nat -> Option (List C)), ze1 d m W bx f = ztn (boL d m W bx) f
 | [], bx, m, f => by unfold ze1 boL; rfl
 | k :: W, [], m, f => by unfold ze1 boL; rfl
 | k :: W, b :: bx, m, f => by unfold ze1 boL ztn; rw [zrk d W bx]
def mEl (d : Nat) : Nat -> List (Bool × T) -> List (Nat × Ev) -> List (Nat × Ev)
 | _, [], acc => acc
 | j, (true, .sl sz rows) :: ts, acc => mEl d (j + 1) ts ((d * 32 + j, ⟨true, sz, rows, 0, true⟩) :: acc)
 | j, (_, _) :: ts, acc => mEl d (j + 1) ts acc
theorem zrv (d : Nat) : ∀ (ts : List (Bool × T)) (j : Nat) (acc : List (Nat × Ev)) (f : Nat -> Option Ev), mE d j ts (zjr acc f) = zjr (mEl d j ts acc) f
 | [], _, _, _ => rfl
 | (false, t) :: ts, j, acc, f => by
  have : mEl d j ((false, t) :: ts) acc = mEl d (j + 1) ts acc := by cases t <;> rfl
  rw [this]; exact zrv d ts (j + 1) acc f
 | (true, t) :: ts, j, acc, f => by
  cases t
  case sl sz rows => exact zrv d ts (j + 1) ((d * 32 + j, ⟨true, sz, rows, 0, true⟩) :: acc) f
  all_goals exact zrv d ts (j + 1) acc f
theorem zhh (d : Nat) : ∀ (ts : List (Bool × T)) (j : Nat) (acc : List (Nat × Ev)) (k : Ky), k ∈ eK acc -> k ∈ eK (mEl d j ts acc)
 | [], _, _, _, h => h
 | (false, t) :: ts, j, acc, k, h => by
  have : mEl d j ((false, t) :: ts) acc = mEl d (j + 1) ts acc := by cases t <;> rfl
  rw [this]; exact zhh d ts (j + 1) acc k h
 | (true, t) :: ts, j, acc, k, h => by
  cases t
  case sl sz rows => exact zhh d ts (j + 1) _ k (by unfold eK; exact List.mem_cons_of_mem _ h)
  all_goals exact zhh d ts (j + 1) acc k h
theorem zrs (d : Nat) : ∀ (ts : List (Bool × T)) (j : Nat) (acc : List (Nat × Ev)) (f f' : Nat -> Option Ev), (∀ e, (2, e) ∈ eK (mEl d j ts acc) -> f' e = f e) -> mF d j ts f -> mF d j ts f'
 | [], _, _, _, _, _, _ => trivial
 | (false, t) :: ts, j, acc, f, f', hk, h => by
  have e0 : mEl d j ((false, t) :: ts) acc = mEl d (j + 1) ts acc := by cases t <;> rfl
  rw [e0] at hk
  exact zrs d ts (j + 1) acc f f' hk h
 | (true, t) :: ts, j, acc, f, f', hk, h => by
  cases t
  case sl sz rows =>
   obtain ⟨h1, h2⟩ := h
   have hm : (2, d * 32 + j) ∈ eK (mEl d j ((true, .sl sz rows) :: ts) acc) := zhh d ts (j + 1) _ _ (by unfold eK; simp)
   refine ⟨(hk _ hm).trans h1, zrs d ts (j + 1) ((d * 32 + j, ⟨true, sz, rows, 0, true⟩) :: acc) _ _ (fun e he => ?_) h2⟩
   by_cases hee : e = d * 32 + j
   ·subst hee; show upd _ _ _ _ = upd _ _ _ _; rw [zac, zac]
   ·show upd _ _ _ _ = upd _ _ _ _; rw [zah _ _ hee, zah _ _ hee]; exact hk e he
  all_goals exact ⟨h.1, zrs d ts (j + 1) acc _ _ hk h.2⟩
def boK : List (Nat × List C) -> List Ky
 | [] => []
 | (k, _) :: l => (1, k) :: boK l
def wK1 : List Nat -> List Ky
 | [] => []
 | k :: l => (1, k) :: wK1 l
theorem zph {n e : Nat} : ∀ {l : List (Nat × List C)}, (n, e) ∈ boK l -> n = 1
 | [], h => by simp [boK] at h
 | (e', x) :: l, h => by
  simp only [boK, List.mem_cons, Prod.mk.injEq] at h
  rcases h with h | h
  ·exact h.1
  ·exact zph h
theorem qeq : ∀ l, okK (boK l) = true
 | [] => rfl
 | (e, x) :: l => by have := qeq l; unfold okK at *; simpa [boK] using this
theorem qds : ∀ l, okK (wK1 l) = true
 | [] => rfl
 | e :: l => by have := qds l; unfold okK at *; simpa [wK1] using this
theorem zye : ∀ {l : List (Nat × List C)} (f f' : Nat -> Option (List C)) {e : Nat}, (1, e) ∈ boK l -> ztn l f e = ztn l f' e
 | [], f, f', e, h => by simp [boK] at h
 | (e', x) :: l, f, f', e, h => by
  unfold ztn
  by_cases he : e = e'
  ·subst he; rw [zac, zac]
  ·rw [zah _ _ he, zah _ _ he]
   simp only [boK, List.mem_cons, Prod.mk.injEq] at h
   exact zye f f' (h.resolve_left fun hh => he hh.2)
theorem zkz : ∀ {l : List (Nat × List C)} (f : Nat -> Option (List C)) {e : Nat}, (1, e) ∉ boK l -> ztn l f e = f e
 | [], f, e, h => rfl
 | (e', x) :: l, f, e, h => by
  simp only [boK, List.mem_cons, Prod.mk.injEq, true_and, not_or] at h
  unfold ztn
  rw [zah _ _ h.1, zkz f h.2]
def St.upEB (σ : St) (l : List (Nat × Ev)) (bl : List (Nat × List C)) : St := ⟨σ.sl, ztn bl σ.bx, zjr l σ.ev⟩
theorem zfg.ofB {o : Oper} {σ : St} {R : List Ky} {l : List (Nat × Ev)} {bl : List (Nat × List C)} {v : V} {d : Nat} (hd : o.dst = some d) (hR : okK R = true) (h : ∀ σ1, (∀ k ∈ R, za0 σ σ1 k) -> zae P o σ1 ((σ1.upEB l bl).put (some d) v)) : zfg P o R (dK (some d) ++ (boK bl ++ eK l)) σ ((σ.upEB l bl).put (some d) v) := by
 have hW : okK (dK (some d) ++ (boK bl ++ eK l)) = true := za5 (zog _) (za5 (qeq _) (zsr _))
 refine ⟨hW, hR, fun k hk3 hk => ?_, fun σ1 h1 => ?_⟩
 ·simp only [List.mem_append, not_or] at hk
  refine za0.trans ?_ (zd9 hk.1)
  obtain ⟨n, i⟩ := k
  match n, hk3 with
  | 0, _ => rfl
  | 1, _ => exact (zkz σ.bx hk.2.1).symm
  | 2, _ => exact (zfp σ.ev hk.2.2).symm
 ·have : zpb σ1 (dK (some d) ++ (boK bl ++ eK l)) ((σ.upEB l bl).put (some d) v) = (σ1.upEB l bl).put (some d) v := by
   refine za0.all3 fun c i hc => ?_
   by_cases hin : (c, i) ∈ dK (some d) ++ (boK bl ++ eK l)
   ·refine (zfa hW hin).trans ?_
    simp only [List.mem_append] at hin
    match c, hc with
    | 0, _ =>
     rcases hin with h | h | h
     ·simp only [dK, List.mem_cons, List.not_mem_nil, or_false, Prod.mk.injEq, true_and] at h
      subst h
      show upd _ _ _ _ = upd _ _ _ _
      rw [zac, zac]
     ·have := zph h; omega
     ·have := zmz h; omega
    | 1, _ =>
     rcases hin with h | h | h
     ·simp [dK] at h
     ·exact zye _ _ h
     ·have := zmz h; omega
    | 2, _ =>
     rcases hin with h | h | h
     ·simp [dK] at h
     ·have := zph h; omega
     ·exact zn7 _ _ h
   ·refine (zck hc hin).trans ?_
    simp only [List.mem_append, not_or] at hin
    refine za0.trans ?_ (zd9 hin.1)
    match c, hc with
    | 0, _ => rfl
    | 1, _ => exact (zkz σ1.bx hin.2.1).symm
    | 2, _ => exact (zfp σ1.ev hin.2.2).symm
  rw [this]
  exact h σ1 h1
def St.callQ (σ : St) (d : Nat) (W : List Nat) (bx' : Bxs) (res : List (Bool × D)) : St := { sl := upd σ.sl d (zk6 (mD d 0 res)), bx := ztn (boL d (za3 res).length W bx') σ.bx, ev := zjr (mEl d 0 (za3 res ++ bx'.flatten) []) σ.ev }
theorem zqr (σ : St) (d : Nat) (W : List Nat) (bx' : Bxs) (res : List (Bool × D)) : σ.callQ d W bx' res = ((σ.upEB (mEl d 0 (za3 res ++ bx'.flatten) []) (boL d (za3 res).length W bx')).put (some d) (zk6 (mD d 0 res))) := rfl
theorem znx {W : List Nat} {o : Oper} {σ : St} {x : Operand} {asx : Array Operand} {ts : Array TypeId} {f : FuncId} {cvs : List V} {d : Nat} {bx bx' : Bxs} {l : List AF} {res : List (Bool × D)} (ho : o.op = .call ⟨.value x, asx, ts⟩) (hd : o.dst = some d)
  (h : PC P f bx l bx' res) (hc : zat (σ.get P 0 x) = some (f, cvs)) (hWn : W.Nodup)
  (hv : mtK W l (σ.gets P asx ts ++ cvs) fun us => ztr σ W bx fun cs => gvQ (us ++ cs) (AF.ds l ++ bxA bx.flatten)) (hf : mF d 0 (za3 res ++ bx'.flatten) σ.ev) : zae P o σ (σ.callQ d W bx' res) := by
 intro n0 N g a w hR hn hdN
 obtain ⟨vs, h1, h2⟩ := zcj hR ho hc h.1
 unfold Oper.wp
 rw [h1]
 let bs : Nat -> Nat := fun j => g.β (W.getD j 0)
 have hbs : ∀ j b, W[j]? = some b -> bs j = g.β b := fun j b hj => by show g.β (W.getD j 0) = _; rw [List.getD_eq_getElem?_getD, hj]; rfl
 obtain ⟨us, dvs, a1, a2, a3, rfl⟩ := zef hbs hv h2
 obtain ⟨cs, bvs, b1, b2, b3, b4, b5⟩ := zgh hR (bs := bs) (j := 0) (fun i b hi => by rw [Nat.zero_add]; exact hbs i b hi) a1
 have k2 := zhr b1 (VRl.append a2 b2)
 have hWj : ∀ j, j < bx.length -> ∃ b, W[j]? = some b /\ b ∈ W /\ bs j = g.β b := fun j hj => by
  have hlt : j < W.length := by omega
  exact ⟨W[j], List.getElem?_eq_getElem hlt, List.getElem_mem hlt, hbs j _ (List.getElem?_eq_getElem hlt)⟩
 have hinj : ∀ i j, i < bx.length -> j < bx.length -> bs i = bs j -> i = j := fun i j hi hj he => by
  obtain ⟨b, e1, e2, e3⟩ := hWj i hi
  obtain ⟨c, f1, f2, f3⟩ := hWj j hj
  have : b = c := hR.inj b c (b5 b e2) (b5 c f2) (by rw [<- e3, <- f3]; exact he)
  subst this
  have hi' : i < W.length := by omega
  have hj' : j < W.length := by omega
  rw [List.getElem?_eq_getElem hi'] at e1
  rw [List.getElem?_eq_getElem hj'] at f1
  exact (List.getElem_inj hWn).1 ((Option.some.inj e1).trans (Option.some.inj f1).symm)
 have hfb : ∀ b, zbr σ g w b -> ∀ j, j < bx.length -> b ≠ bs j := fun b hb j hj e => by
  obtain ⟨c, _, e2, e3⟩ := hWj j hj
  exact hb.1.1 c (b5 c e2) (by rw [<- e3, e])
 refine (h.2.2 w bs bvs dvs [] [] (zbr σ g w) hinj (fun j _ => by simp) b3 (zas.keepA (fun b hb => ⟨⟨hb.1.2.2.1, by simp, hfb b hb⟩, hb⟩) k2) List.nodup_nil a3).mono ?_
 rintro e w' ⟨us', bvs', fp', tp', rfl, hbx', hlu, o1, o2, o3, hbk⟩
 obtain ⟨v1, v2, f1, f2, t1, t2, ev, ef, et, p1, p2⟩ := zas.split o1
 obtain ⟨rfl, rfl⟩ := List.append_inj ev (by rw [hlu, zas.len p1])
 subst ef
 obtain ⟨t1', p1'⟩ := p1.flat
 have pp := zas.append p1' p2
 rw [<- zew] at pp
 have e0 : mE d 0 (za3 res ++ bx'.flatten) σ.ev = zjr (mEl d 0 (za3 res ++ bx'.flatten) []) σ.ev := zrv d _ 0 [] σ.ev
 have e1 : ze1 d (za3 res).length W bx' σ.bx = ztn (boL d (za3 res).length W bx') σ.bx := zrk d W bx' _ _
 obtain ⟨g', q1, q2, q3⟩ := New.mix (τ := σ) (g := g) (NB := fun b => w.heap.size <= b) (w' := w') d (za3 res ++ bx'.flatten) _ (f1 ++ f2) _ 0 σ.ev g [] (New.refl _ _ _ _ hR.slc) hf pp o2 (fun b hb' => ⟨by simpa using o3 b hb', by simp⟩)
 have hbk' : Bk (fun k => k < w.heap.size /\ ∀ b ∈ W, k ≠ g.β b) w w' := ⟨hbk.os, hbk.tape, hbk.output, hbk.size, fun k hk => hbk.block k ⟨hk.1, by simp, fun j hj e => by
  obtain ⟨c, _, e2, e3⟩ := hWj j hj
  exact hk.2 c e2 (by rw [<- e3, e])⟩⟩
 have hWl : W.length = bx'.length := by rw [h.2.1]; omega
 have hdom : ∀ b, ze1 d (za3 res).length W bx' σ.bx b ≠ none ↔ σ.bx b ≠ none := fun b => by
  by_cases hbW : b ∈ W
  ·exact ⟨fun _ => b5 b hbW, fun _ => zov d W bx' _ _ b hWl hbW⟩
  ·rw [zhk d W bx' _ _ b hbW]
 have hfree : ∀ k, ((k < w'.heap.size /\ k ∉ f1 ++ f2 /\ ∀ j, j < bx.length -> k ≠ bs j) /\ (zbr σ g w k \/ w.heap.size <= k \/ k ∈ ([] : List Nat))) -> zbr ⟨σ.sl, ze1 d (za3 res).length W bx' σ.bx, mE d 0 (za3 res ++ bx'.flatten) σ.ev⟩ g' w' k := fun k hk => by
  have hno : ∀ e, St.On ⟨σ.sl, ze1 d (za3 res).length W bx' σ.bx, mE d 0 (za3 res ++ bx'.flatten) σ.ev⟩ e -> k ∉ g'.φ e := fun e ho' hm => by
   by_cases hee : σ.ev e = none
   ·obtain ⟨x, hx, _⟩ := ho'
    have := ((q1.new e x hee hx).2.2.1 k hm).2
    rw [List.nil_append] at this
    exact hk.1.2.1 this
   ·rw [(q1.old e hee).2.2] at hm
    obtain ⟨x, hx, hon⟩ := ho'
    have ho2 : σ.On e := ⟨x, (q1.old e hee).1.symm.trans hx, hon⟩
    rcases hk.2 with h | h | h
    ·exact h.2 e ho2 hm
    ·obtain ⟨y, hy, hyo⟩ := ho2
     have := (hR.evs e y hy hyo).lt k hm; omega
    ·simp at h
  refine ⟨⟨fun j hj e => ?_, fun e x hx hon hh => hno e ⟨x, hx, hon⟩ (List.mem_of_mem_head? hh), hk.1.1, ?_⟩, hno⟩
  ·have hj' := (hdom j).1 hj
   rw [q1.β] at e
   rcases hk.2 with h | h | h
   ·exact h.1.1 j hj' e
   ·have := hR.lt hj'; omega
   ·simp at h
  ·rw [q1.A0]
   rcases hk.2 with h | h | h
   ·exact h.1.2.2.2
   ·exact (hR.anew k (hn.new h)).1
   ·simp at h
 have hcr := q3 ⟨σ.sl, ze1 d (za3 res).length W bx' σ.bx, mE d 0 (za3 res ++ bx'.flatten) σ.ev⟩ w' rfl fun t v h => zai.keep (fun _ _ => rfl) hfree t v h
 obtain ⟨hc1, hc2⟩ := hcr.split_flat (A := fun _ => True) (w' := w') (m := 0) (zas.one_vals p1)
 have hR' := hR.afterB hn hbk' hdom (fun b hb => zhk d W bx' _ _ b hb) b5 q1 (zgm d W bx' bvs' 0 (za3 res).length σ.bx (fun i b hi => by rw [Nat.zero_add]; exact hbs i b hi) hbx' hc2 hWl)
 have hBk : Bk n0 w w' := ⟨hbk.os, hbk.tape, hbk.output, hbk.size, fun k hk => hbk.block k ⟨hn k hk, by simp, fun j hj e => by
  obtain ⟨c, _, e2, e3⟩ := hWj j hj
  exact hR.base c (b5 c e2) (by rw [<- e3, <- e]; exact hk)⟩⟩
 refine ⟨g', ?_, hBk, q1.A0, q1.R0⟩
 have hp := hR'.put (some d) (x := zk6 (mD d 0 res)) (v := zbk us') (zd1 (zol d 0 p1 hc1) (zlx d res 0)) (fun i hi => by cases hi; exact hdN d hd)
 rw [e0, e1] at hp
 rw [hd]
 exact hp
section
variable {ks : List Fr} {Q : Exit -> St -> Prop} {σ : St} {ops : Array Oper} {os : List Oper} {L : List (List Ky × List Ky)} {ty : TypeId} {ps : String} {af : Array Edge} {d : Nat} {x : Operand} {asx : Array Operand} {ts : Array TypeId} {f : FuncId} {bx bx' : Bxs} {l : List AF} {res : List (Bool × D)}
theorem callQ (W : List Nat) (h : PC P f bx l bx' res) (hWn : W.Nodup)
  (hp : zam (zat (σ.get P 0 x)) fun p => p.1 = f /\ mtK W l (σ.gets P asx ts ++ p.2) fun us => ztr σ W bx fun cs => gvQ (us ++ cs) (AF.ds l ++ bxA bx.flatten)) (hf : mF d 0 (za3 res ++ bx'.flatten) σ.ev)
  (k : exo P ops os ks Q (σ.callQ d W bx' res)) : exo P ops (⟨some d, .call ⟨.value x, asx, ts⟩, ty, ps, af, none⟩ :: os) ks Q σ := by
 obtain ⟨⟨f', cvs⟩, h1, rfl, h2⟩ := zal hp
 exact zca rfl rfl (znx rfl rfl h h1 hWn h2 hf) k
theorem zqu {σ1 : St} : ∀ {W : List Nat} {bx : Bxs} {K : List V -> Prop}, (∀ k ∈ wK1 W, za0 σ σ1 k) -> ztr σ W bx K -> ztr σ1 W bx K
 | [], [], _, _, h => h
 | [], _ :: _, _, _, h => h.elim
 | _ :: _, [], _, _, h => h.elim
 | k :: W, b :: bx, K, hs, h => by
  obtain ⟨cs, h1, h2, h3⟩ := zal h
  have : σ1.bx k = some cs := (Eq.symm (hs (1, k) (by simp [wK1]))).trans h1
  show zam (σ1.bx k) _
  rw [this]
  exact ⟨h2, zqu (W := W) (fun k hk => hs k (by simp [wK1, hk])) h3⟩
theorem zxo {σ1 : St} {asx : Array Operand} {ts : Array TypeId} (h : ∀ k ∈ zap asx.toList, za0 σ σ1 k) : σ1.gets P asx ts = σ.gets P asx ts := by
 unfold St.gets
 refine List.map_congr_left fun p hp => ?_
 exact zby h (List.of_mem_zip hp).1 _
theorem zhy {x : Operand} {l : List Operand} {k : Ky} (h : k ∈ zap l) : k ∈ zap (x :: l) := by
 cases x <;> first | exact List.mem_cons_of_mem _ h | exact h
theorem zd3 (W : List Nat) (h : PC P f bx l bx' res) (hWn : W.Nodup)
  (hp : zam (zat (σ.get P 0 x)) fun p => p.1 = f /\ mtK W l (σ.gets P asx ts ++ p.2) fun us => ztr σ W bx fun cs => gvQ (us ++ cs) (AF.ds l ++ bxA bx.flatten)) (hf : mF d 0 (za3 res ++ bx'.flatten) σ.ev)
  (k : exd P ops os (L ++ [(zap (x :: asx.toList) ++ (wK1 W ++ eK (mEl d 0 (za3 res ++ bx'.flatten) [])), dK (some d) ++ (boK (boL d (za3 res).length W bx') ++ eK (mEl d 0 (za3 res ++ bx'.flatten) [])))]) ks Q (σ.callQ d W bx' res)) :
  exd P ops (⟨some d, .call ⟨.value x, asx, ts⟩, ty, ps, af, none⟩ :: os) L ks Q σ := by
 obtain ⟨⟨f', cvs⟩, h1, rfl, h2⟩ := zal hp
 refine ze5 rfl rfl ?_ k
 rw [zqr]
 refine zfg.ofB rfl (za5 (zbp _) (za5 (qds _) (zsr _))) fun σ1 hs => ?_
 rw [<- zqr]
 have e1 : σ1.get P 0 x = σ.get P 0 x := zby (l := x :: asx.toList) (fun k hk => hs k (by simp only [List.mem_append]; exact Or.inl hk)) (by simp) 0
 have e2 : σ1.gets P asx ts = σ.gets P asx ts := zxo fun k hk => hs k (by simp only [List.mem_append]; exact Or.inl (zhy hk))
 refine znx rfl rfl h (by rw [e1]; exact h1) hWn (by rw [e2]; exact zr9 (fun us hu => zqu (fun k hk => hs k (by simp only [List.mem_append]; exact Or.inr (Or.inl hk))) hu) h2) ?_
 exact zrs d _ 0 [] _ _ (fun e he => Eq.symm (hs (2, e) (by simp only [List.mem_append]; exact Or.inr (Or.inr he)))) hf
theorem zb3 {ds0 res0 : List D} {gR : List Ky} (h : FC P f ds0 res0) (hp : zam (zat (σ.get P 0 x)) fun p => p.1 = f /\ VDs σ (σ.gets P asx ts ++ p.2) ds0 /\ zfc d 0 (za1 res0) σ.ev)
  (k : exd P ops os (L ++ [(gR ++ (zap (x :: asx.toList) ++ (vsK σ (σ.gets P asx ts ++ qf0 (zat (σ.get P 0 x))) ++ eK (owL d 0 (za1 res0)))), dK (some d) ++ eK (owL d 0 (za1 res0)))]) ks Q (σ.callF d res0)) :
  zm6 P ops ⟨some d, .call ⟨.value x, asx, ts⟩, ty, ps, af, none⟩ os L gR ks Q σ := by
 obtain ⟨⟨f', cvs⟩, h1, rfl, h2, h3⟩ := zal hp
 rw [h1] at k
 exact qfk _ _ _ _ _ _ rfl (zms rfl rfl h h1 h2 h3) k
end
attribute [go_sem] gvQ ztn boL mEl boK wK1 St.callQ
end Go.Proofs.YtaaniggpnljckaaGreat
namespace Go.Proofs.YtaaniggpnljckaaGreat
set_option linter.unusedSimpArgs false
set_option linter.unusedVariables false
set_option linter.unusedSectionVars false
set_option maxRecDepth 4000
open Go.RowKit
variable {P : Program}
section
variable {d : Option Nat} {ty : TypeId} {ps : String} {af : Array Edge} (ops : Array Oper) (os : List Oper) (L : List (List Ky × List Ky)) (ks : List Fr) (Q : Exit -> St -> Prop) (σ : St)
def exdGS (P : Program) (ops : Array Oper) (o : Oper) (os : List Oper) (L : List (List Ky × List Ky)) (gR : List Ky) (ks : List Fr) (Q : Exit -> St -> Prop) (σ : St) : Prop := zm6 P ops o os L gR ks Q σ
theorem zsv (gR : List Ky) (t : TypeId) (x : Operand) (l h m : Option Operand) : zm6 P ops ⟨d, .slice t x l h m, ty, ps, af, none⟩ os L gR ks Q σ = owK (σ.get P t x) (exdGS P ops ⟨d, .slice t x l h m, ty, ps, af, none⟩ os L gR ks Q σ) (thn (st P ⟨d, .slice t x l h m, ty, ps, af, none⟩ σ) (exd P ops os (L ++ [(gR ++ (zap (x :: (l.toList ++ h.toList ++ m.toList)) ++ []), dK d ++ [])]) ks Q)) := by
 unfold owK
 split
 ·rfl
 ·rename_i h
  exact zfb _ _ _ _ _ _ (by unfold zkk ztt; simpa [zsy] using h)
end
attribute [go_sem ↓] zsv
attribute [go_sem] St.upEB
end Go.Proofs.YtaaniggpnljckaaGreat
namespace Go.Proofs.YtaaniggpnljckaaGreat
set_option linter.unusedSimpArgs false
set_option linter.unusedVariables false
set_option linter.unusedSectionVars false
set_option maxRecDepth 4000
open Go.RowKit
variable {P : Program}
section
variable {σ σ' : St} {g g' : Gh} {w : World}
theorem qhr (hβ : g'.β = g.β) (hb : σ'.bx = σ.bx) (hh : ∀ e n, σ.has e n -> σ'.has e n /\ g'.ψ e n = g.ψ e n) (hrn : ∀ b, zbr σ g w b -> zbr σ' g' w b) {c : C} {v : Value} (hc : c.mOk = true) (h : CR σ g w c v) : CR σ' g' w c v := by
 cases c with
 | t x => exact zc8 hc h
 | nl s => exact h
 | ow e n => exact ⟨by rw [(hh e n h.2).2]; exact h.1, (hh e n h.2).1⟩
 | bx b o => exact ⟨by rw [hβ]; exact h.1, by rw [hb]; exact h.2⟩
 | el cs o => cases hc
 | eo e s sz i o => obtain ⟨b, n, c, k1, k2, k3, k4⟩ := h; exact ⟨b, n, c, by rw [(hh e s k4).2]; exact k1, k2, k3, (hh e s k4).1⟩
 | vw e s sz i => obtain ⟨b, n, c, k1, k2, k3, k4⟩ := h; exact ⟨b, n, c, by rw [(hh e s k4).2]; exact k1, k2, k3, (hh e s k4).1⟩
 | fn f caps => exact ⟨by rw [hβ]; exact h.1, by rw [hb]; exact h.2⟩
 | cv u => exact h
 | any => trivial
 | rn x => exact zai.keep (fun _ _ => rfl) hrn x v h
 | er cs o => obtain ⟨b, q, h1, h2, h3⟩ := h; exact ⟨b, q, h1, hrn b h2, zaz.keep (fun _ _ => rfl) hrn b rfl q cs h3⟩
theorem zma (hβ : g'.β = g.β) (hb : σ'.bx = σ.bx) (hh : ∀ e n, σ.has e n -> σ'.has e n /\ g'.ψ e n = g.ψ e n) (hrn : ∀ b, zbr σ g w b -> zbr σ' g' w b) : ∀ {cs : List C} {vs : List Value}, cs.all C.mOk = true -> CRs σ g w cs vs -> CRs σ' g' w cs vs
 | [], _, _, h => h
 | c :: cs, vs, hc, h => by
  rw [List.all_cons, Bool.and_eq_true] at hc
  obtain ⟨v, vs', rfl, h1, h2⟩ := h
  exact ⟨v, vs', rfl, qhr hβ hb hh hrn hc.1 h1, zma hβ hb hh hrn hc.2 h2⟩
theorem qeu (hβ : g'.β = g.β) (hb : σ'.bx = σ.bx) (hh : ∀ e n, σ.has e n -> σ'.has e n /\ g'.ψ e n = g.ψ e n) (hrn : ∀ b, zbr σ g w b -> zbr σ' g' w b) : ∀ {xs : List (Bool × List C)} {vs : List Value}, (xs.all fun x => x.2.all C.mOk) = true -> CRt σ g w xs vs -> CRt σ' g' w xs vs
 | [], _, _, h => h
 | x :: xs, vs, hc, h => by
  rw [List.all_cons, Bool.and_eq_true] at hc
  obtain ⟨v, vs', rfl, h1, h2⟩ := h
  refine ⟨v, vs', rfl, ?_, qeu hβ hb hh hrn hc.2 h2⟩
  unfold CRx at h1 ⊢
  split at h1
  ·rw [if_pos ‹_›]; obtain ⟨a, k1, k2⟩ := h1; exact ⟨a, k1, zma hβ hb hh hrn hc.1 k2⟩
  ·rw [if_neg ‹_›]
   obtain ⟨c, k1, k2⟩ := h1
   refine ⟨c, k1, qhr hβ hb hh hrn ?_ k2⟩
   have := hc.1
   rw [k1] at this
   simpa using this
theorem mv_vr (hβ : g'.β = g.β) (hb : σ'.bx = σ.bx) (hh : ∀ e n, σ.has e n -> σ'.has e n /\ g'.ψ e n = g.ψ e n) (hrn : ∀ b, zbr σ g w b -> zbr σ' g' w b) {x : V} {v : Value} (hc : x.mOk = true) (h : VR σ g w x v) : VR σ' g' w x v := by
 cases x with
 | one c => exact qhr hβ hb hh hrn hc h
 | agg cs => obtain ⟨a, k1, k2⟩ := h; exact ⟨a, k1, zma hβ hb hh hrn hc k2⟩
 | tup xs => obtain ⟨a, k1, k2⟩ := h; exact ⟨a, k1, qeu hβ hb hh hrn hc k2⟩
end
def WkX (σ : St) (K : St -> Prop) : Prop := ∀ n0 N g a w, Rel n0 N σ g a w -> LtK n0 w -> ∃ σ' g', K σ' /\ Rel n0 N σ' g' a w /\ g'.A0 = g.A0 /\ g'.R0 = g.R0
theorem za9.preX {o : Oper} {σ : St} {K : St -> Prop} (h : WkX σ fun σ' => za9 P o σ' K) : za9 P o σ K := fun n0 N g a w hR hn hd => by
 obtain ⟨σ1, g1, k, h1, h2, h3⟩ := h n0 N g a w hR hn
 have := k n0 N g1 a w h1 hn hd
 unfold Oper.wp at this ⊢
 revert this
 cases (execOp a.eval o).run P w <;> intro this <;> try exact this
 all_goals (revert this; rw [h2, h3]; exact id)
end Go.Proofs.YtaaniggpnljckaaGreat
namespace Go.Proofs.YtaaniggpnljckaaGreat
set_option linter.unusedSimpArgs false
set_option linter.unusedVariables false
set_option linter.unusedSectionVars false
set_option maxRecDepth 4000
open Go.RowKit
variable {P : Program}
attribute [go_sem] zgz
end Go.Proofs.YtaaniggpnljckaaGreat
namespace Go.Proofs.YtaaniggpnljckaaGreat
set_option linter.unusedSimpArgs false
set_option linter.unusedVariables false
set_option linter.unusedSectionVars false
set_option maxRecDepth 4000
open Go.RowKit
variable {P : Program}
section
variable {ks : List Fr} {Q : Exit -> St -> Prop} {σ : St} {ops : Array Oper} {os : List Oper} {L : List (List Ky × List Ky)} {d : Nat} {t : TypeId} {ty : TypeId} {ps : String} {af : Array Edge} {len : Nat} {parts : Array (Nat × Operand)}
theorem zhm (h : zam (blS P σ t len parts) fun _ => σ.ev (d * 32) = none)
  (k : exd P ops os (L ++ [(zap (parts.toList.map (·.2)) ++ (rK (qb1 (zhv P (σ.get P) t len parts)) ++ [(2, d * 32)]), dK (some d) ++ eK (blK d (blS P σ t len parts)))]) ks Q ((σ.bl d (blS P σ t len parts)).put (some d) (.one (.ow (d * 32) 0)))) :
  exd P ops (⟨some d, .buildSlice t len parts, ty, ps, af, none⟩ :: os) L ks Q σ := by
 obtain ⟨⟨x, cons⟩, h1, h2⟩ := zal h
 rw [h1] at k
 unfold blS at h1
 obtain ⟨p, e1, h1⟩ := Option.bind_eq_some_iff.1 h1
 obtain ⟨q, e2, h1⟩ := Option.map_eq_some_iff.1 h1
 simp only [Prod.mk.injEq] at h1
 obtain ⟨rfl, rfl⟩ := h1
 rw [e1] at k
 exact qfa ⟨e1, e2, h2⟩ k
end
end Go.Proofs.YtaaniggpnljckaaGreat
namespace Go.Proofs.YtaaniggpnljckaaGreat
set_option linter.unusedSimpArgs false
set_option linter.unusedVariables false
set_option linter.unusedSectionVars false
set_option maxRecDepth 4000
open Go.RowKit
variable {P : Program} {N : Nat}
def preC : Nat -> Code -> Code
 | 0, .seq x _ => x
 | n + 1, .seq x y => .seq x (preC n y)
 | _, c => c
def sufC : Nat -> Code -> Code
 | 0, .seq _ y => y
 | n + 1, .seq _ y => sufC n y
 | _, _ => .skip
def okC : Nat -> Code -> Bool
 | 0, .seq _ _ => true
 | n + 1, .seq _ y => okC n y
 | _, _ => false
section
variable {ag : Bool} {b : Nat}
theorem zv5 {n0 n1 : Nat -> Prop} {w w' : World} (hn : ∀ x, n0 x -> n1 x) (h : Bk n1 w w') : Bk n0 w w' := ⟨h.os, h.tape, h.output, h.size, fun k hk => h.block k (hn k hk)⟩
end
attribute [go_sem] preC sufC
end Go.Proofs.YtaaniggpnljckaaGreat
namespace Go.Proofs.YtaaniggpnljckaaGreat
set_option linter.unusedSimpArgs false
set_option linter.unusedVariables false
set_option linter.unusedSectionVars false
set_option maxRecDepth 4000
open Go.RowKit
variable {P : Program} {N : Nat}
theorem zyc {ops : Array Oper} {K : St -> Prop} {n0 : Nat -> Prop} {w0 : World} {A0 : (Nat -> Prop) × RP} {R : Exit -> Act -> World -> Prop} {rest : List Nat} (hg : ∀ o ∈ ops.toList, o.guard = none) (hR : ∀ a w σ g, K σ -> Rel n0 N σ g a w -> LtK n0 w -> Bk n0 w0 w -> (g.A0, g.R0) = A0 -> wpOps P ops R rest a w) :
  ∀ (k i : Nat), i + k <= ops.size -> (∀ o ∈ ops.toList, ∀ d, o.dst = some d -> d < N) -> ∀ (σ : St) (g : Gh) (a : Act) (w : World), zbj P ops ((ops.toList.drop i).take k) σ K -> Rel n0 N σ g a w -> LtK n0 w -> Bk n0 w0 w -> (g.A0, g.R0) = A0 -> wpOps P ops R (List.range' i k ++ rest) a w
 | 0, i, hi, hd, σ, g, a, w, h, hr, hn, hb, hA => by
  rw [List.take_zero] at h
  exact hR a w σ g h hr hn hb hA
 | k + 1, i, hi, hd, σ, g, a, w, h, hr, hn, hb, hA => by
  have hlt : i < ops.size := by omega
  have hcons : ops.toList.drop i = ops[i] :: ops.toList.drop (i + 1) := by
   rw [List.drop_eq_getElem_cons (by simpa using hlt)]; rfl
  rw [hcons, List.take_succ_cons] at h
  rw [show List.range' i (k + 1) ++ rest = i :: (List.range' (i + 1) k ++ rest) from rfl, wpOps_cons]
  have ho : ops[i]? = some ops[i] := by simp [hlt]
  have hdi : ∀ d, ops[i].dst = some d -> d < N := hd _ (by simp)
  have hgi : ops[i].guard = none := hg _ (by simp)
  unfold wpOp
  simp only [ho]
  unfold zbj exG at h
  rw [hgi] at h
  have : Region.wanted ops[i] (yielded ops a.tmps) = true := by simp [Region.wanted, hgi]
  rw [if_pos this]
  exact Or.inl (zb9 (fun a' w' ⟨σ', g', h0, k1, k2, k3, k4⟩ => zyc hg hR k (i + 1) (by omega) hd σ' g' a' w' h0 k1 (hn.mono k2.size) (hb.trans k2) (by rw [k3, k4]; exact hA)) (zdu h n0 N g a w hr hn hdi))
end Go.Proofs.YtaaniggpnljckaaGreat
namespace Go.Proofs.YtaaniggpnljckaaGreat
set_option linter.unusedSimpArgs false
set_option linter.unusedVariables false
set_option linter.unusedSectionVars false
set_option maxRecDepth 4000
open Go.RowKit
variable {P : Program} {N : Nat}
attribute [go_sem] Option.bind_some Option.map_some
end Go.Proofs.YtaaniggpnljckaaGreat
namespace Go.Proofs.YtaaniggpnljckaaGreat
set_option linter.unusedSimpArgs false
set_option linter.unusedVariables false
set_option linter.unusedSectionVars false
set_option maxRecDepth 4000
open Go.RowKit
variable {P : Program}
def C.fs (e : Nat) (x : Ev) : C -> C
 | .ow e' g => if e' = e then (if g = x.gen then .t (.sl x.sz x.rows) else .any) else .ow e' g
 | .eo e' g sz i o => if e' = e then .any else .eo e' g sz i o
 | .vw e' g sz o => if e' = e then .any else .vw e' g sz o
 | c => c
def fsS (f : Nat -> V) (e : Nat) (x : Ev) : Nat -> V := fun i => (f i).map (C.fs e x)
def fsB (f : Nat -> Option (List C)) (e : Nat) (x : Ev) : Nat -> Option (List C) := fun b => (f b).map fun cs => cs.map (C.fs e x)
def fsE (f : Nat -> Option Ev) (e : Nat) : Nat -> Option Ev := fun k => if k = e then none else f k
theorem fsS_at (f : Nat -> V) (e : Nat) (x : Ev) (i : Nat) : fsS f e x i = (f i).map (C.fs e x) := rfl
theorem zqv (f : Nat -> Option (List C)) (e : Nat) (x : Ev) (b : Nat) : fsB f e x b = (f b).map fun cs => cs.map (C.fs e x) := rfl
theorem fsE_at (f : Nat -> Option Ev) (e k : Nat) : fsE f e k = if k = e then none else f k := rfl
def St.fs (σ : St) (e : Nat) (x : Ev) : St := ⟨fsS σ.sl e x, fsB σ.bx e x, fsE σ.ev e⟩
theorem qdt {σ : St} {e : Nat} {x : Ev} (hx : σ.ev e = some x) (hd : x.deep = false) (ho : x.on = true) {n0 : Nat -> Prop} {N : Nat} {g : Gh} {a : Act} {w : World} (h : Rel n0 N σ g a w) : Rel n0 N (σ.fs e x) g a w /\ ∀ b ∈ g.φ e, b < w.heap.size -> zbr (σ.fs e x) g w b := by
 have hev : ∀ e', e' ≠ e -> (σ.fs e x).ev e' = σ.ev e' := fun e' he => by show (if e' = e then none else σ.ev e') = _; rw [if_neg he]
 have hee : (σ.fs e x).ev e = none := by show (if e = e then none else σ.ev e) = _; rw [if_pos rfl]
 have hsome : ∀ e' z, (σ.fs e x).ev e' = some z -> e' ≠ e /\ σ.ev e' = some z := fun e' z hz => by
  by_cases he : e' = e
  ·subst he; rw [hee] at hz; cases hz
  ·exact ⟨he, by rw [<- hev e' he]; exact hz⟩
 have hon : ∀ e', (σ.fs e x).On e' -> e' ≠ e /\ σ.On e' := fun e' ⟨z, hz, h1⟩ => ⟨(hsome e' z hz).1, z, (hsome e' z hz).2, h1⟩
 have hbx : ∀ b, (σ.fs e x).bx b ≠ none ↔ σ.bx b ≠ none := fun b => by unfold St.fs; simp [zqv]
 have hOn : σ.On e := ⟨x, hx, ho⟩
 have hf : ∀ b, Fix σ g w b -> Fix (σ.fs e x) g w b := fun b hf => ⟨fun k hk => hf.1 k ((hbx k).1 hk), fun e' z hz h1 => hf.2.1 e' z (hsome e' z hz).2 h1, hf.2.2⟩
 have hfr : ∀ b, zbr σ g w b -> zbr (σ.fs e x) g w b := fun b hb => ⟨hf b hb.1, fun e' h' => hb.2 e' (hon e' h').2⟩
 have hgone : ∀ b ∈ g.φ e, b < w.heap.size -> zbr (σ.fs e x) g w b := fun b hb hl => by
  have hne : ∀ e', (σ.fs e x).On e' -> b ∉ g.φ e' := fun e' he' hm => h.apart e e' hOn (hon e' he').2 (Ne.symm (hon e' he').1) b hb hm
  exact ⟨⟨fun j hj hjb => h.ebx e j hOn ((hbx j).1 hj) (by rw [hjb]; exact hb), fun e' z hz h1 hh => hne e' ⟨z, hz, h1⟩ (List.mem_of_mem_head? hh), hl, (h.ebase e hOn b hb).1⟩, hne⟩
 have hhas : ∀ e' n, e' ≠ e -> σ.has e' n -> (σ.fs e x).has e' n := fun e' n he ⟨z, hz, h1⟩ => ⟨z, by rw [hev e' he]; exact hz, h1⟩
 have cr : ∀ c v, CR σ g w c v -> CR (σ.fs e x) g w (c.fs e x) v := fun c v hc => by
  cases c with
  | t y => exact zai.keep (fun _ _ => rfl) hf y v hc
  | nl s => exact hc
  | ow e' n =>
   show CR _ _ _ (if e' = e then (if n = x.gen then .t (.sl x.sz x.rows) else .any) else .ow e' n) v
   by_cases he : e' = e
   ·subst he
    rw [if_pos rfl]
    by_cases hn : n = x.gen
    ·rw [if_pos hn]
     subst hn
     obtain ⟨ao, cap, e1, e2, e3, e4⟩ := h.evs _ x hx ho
     rw [<- hc.1] at e1
     show zai _ _ _ _
     unfold zai
     refine ⟨ao, cap, e1, e2, e3, ?_⟩
     rcases e4 with ⟨_, _, e4, _⟩ | ⟨b, cells, ty, fps, k1, k2, k3, k4, k5⟩
     ·exact Or.inl e4
     ·rw [if_neg (by rw [hd]; simp)] at k5
      exact Or.inr ⟨b, 0, k1, (hgone b (by rw [k2]; simp) (Array.getElem?_eq_some_iff.1 k3).1).1, zak.keep (fun _ _ => rfl) hf b rfl 0 x.sz x.rows k5.2⟩
    ·rw [if_neg hn]; trivial
   ·rw [if_neg he]; exact ⟨hc.1, hhas e' n he hc.2⟩
  | bx b o => exact ⟨hc.1, (hbx b).2 hc.2⟩
  | el cs o => obtain ⟨b, q, h1, h2, h3⟩ := hc; exact ⟨b, q, h1, hf b h2, zaz.keep (fun _ _ => rfl) hf b rfl q cs h3⟩
  | eo e' s sz i o =>
   show CR _ _ _ (if e' = e then .any else .eo e' s sz i o) v
   by_cases he : e' = e
   ·rw [if_pos he]; trivial
   ·rw [if_neg he]; obtain ⟨b, n, c, h1, h2, h3, h4⟩ := hc; exact ⟨b, n, c, h1, h2, h3, hhas e' s he h4⟩
  | vw e' s sz o =>
   show CR _ _ _ (if e' = e then .any else .vw e' s sz o) v
   by_cases he : e' = e
   ·rw [if_pos he]; trivial
   ·rw [if_neg he]; obtain ⟨b, n, c, h1, h2, h3, h4⟩ := hc; exact ⟨b, n, c, h1, h2, h3, hhas e' s he h4⟩
  | fn f caps => exact ⟨hc.1, fun b hb => (hbx b).2 (hc.2 b hb)⟩
  | cv u => exact hc
  | any => trivial
  | rn y => exact zai.keep (fun _ _ => rfl) hfr y v hc
  | er cs o => obtain ⟨b, q, h1, h2, h3⟩ := hc; exact ⟨b, q, h1, hfr b h2, zaz.keep (fun _ _ => rfl) hfr b rfl q cs h3⟩
 refine ⟨⟨h.defers, h.size, h.anew, fun i => VR.map cr (h.slots i), fun b cs hb => ?_, fun b hb => h.base b ((hbx b).1 hb), fun b b' h1 h2 => h.inj b b' ((hbx b).1 h1) ((hbx b').1 h2), fun e' z hz h1 => ?_, fun e' z hz h1 => ?_, h.slc, fun e' h1 => h.ebase e' (hon e' h1).2, fun e' h1 => h.etop e' (hon e' h1).2, fun e' h1 => h.nodup e' (hon e' h1).2, fun e1 e2 h1 h2 => h.apart e1 e2 (hon e1 h1).2 (hon e2 h2).2, fun e' k h1 h2 => h.ebx e' k (hon e' h1).2 ((hbx k).1 h2)⟩, hgone⟩
 ·cases hc : σ.bx b with
  | none => unfold St.fs at hb; simp only [zqv, hc, Option.map_none] at hb; cases hb
  | some cs0 =>
   unfold St.fs at hb
   simp only [zqv, hc, Option.map_some, Option.some.injEq] at hb
   subst hb
   obtain ⟨vs, ty, k1, k2⟩ := h.boxes b cs0 hc
   exact ⟨vs, ty, k1, CRs.map cr k2⟩
 ·obtain ⟨ao, cap, e1, e2, e3, e4⟩ := h.evs e' z (hsome e' z hz).2 h1
  refine ⟨ao, cap, e1, e2, e3, ?_⟩
  rcases e4 with e4 | ⟨b, cells, ty, fps, k1, k2, k3, k4, k5⟩
  ·exact Or.inl e4
  ·refine Or.inr ⟨b, cells, ty, fps, k1, k2, k3, k4, ?_⟩
   split at k5
   ·rw [if_pos ‹_›]; exact k5
   ·rw [if_neg ‹_›]; exact ⟨k5.1, zak.keep (fun _ _ => rfl) hf b rfl 0 z.sz z.rows k5.2⟩
 ·exact ⟨zai.keep (fun _ _ => rfl) hf _ _ (h.offs e' z (hsome e' z hz).2 h1).1, (h.offs e' z (hsome e' z hz).2 h1).2⟩
theorem fs_wk {σ : St} {e : Nat} {x : Ev} (hx : σ.ev e = some x) (hd : x.deep = false) (ho : x.on = true) : Wk σ (σ.fs e x) := fun _ _ g _ _ h => ⟨g, (qdt hx hd ho h).1, rfl, rfl⟩
section
variable {ks : List Fr} {Q : Exit -> St -> Prop} {σ : St} {ops : Array Oper} {os : List Oper} {o : Oper}
theorem frzSD (e : Nat) {i : Nat} (k : zam (σ.ev e) fun x => x.deep = false /\ x.on = true /\ ex P (.region i ops true) ks Q (σ.fs e x)) : ex P (.region i ops true) ks Q σ := by
 obtain ⟨x, hx, h1, h2, h3⟩ := zal k
 exact zb4.pre (fs_wk hx h1 h2) h3
end
attribute [go_sem] C.fs St.fs fsS_at zqv fsE_at
end Go.Proofs.YtaaniggpnljckaaGreat
namespace Go.Proofs.YtaaniggpnljckaaGreat
set_option linter.unusedSimpArgs false
set_option linter.unusedVariables false
set_option linter.unusedSectionVars false
set_option maxRecDepth 4000
open Go.RowKit
variable {P : Program}
def St.sh (σ : St) (e : Nat) (x : Ev) : St := ⟨σ.sl, σ.bx, upd σ.ev e (some ⟨false, x.sz, x.rows, x.gen, x.on⟩)⟩
theorem sh_wk {σ : St} {e : Nat} {x : Ev} (hx : σ.ev e = some x) (hr : x.rows = []) : Wk σ (σ.sh e x) := by
 intro n0 N g a w h
 have hev : ∀ e', e' ≠ e -> (σ.sh e x).ev e' = σ.ev e' := fun e' he => zah _ _ he
 have hee : (σ.sh e x).ev e = some ⟨false, x.sz, x.rows, x.gen, x.on⟩ := zac _ _ _
 have back : ∀ e' z, (σ.sh e x).ev e' = some z -> ∃ y, σ.ev e' = some y /\ y.on = z.on /\ y.gen = z.gen /\ y.sz = z.sz /\ y.rows = z.rows /\ (e' ≠ e -> y = z) := fun e' z hz => by
  by_cases he : e' = e
  ·subst he
   rw [hee] at hz
   cases hz
   exact ⟨x, hx, rfl, rfl, rfl, rfl, fun h => absurd rfl h⟩
  ·exact ⟨z, by rw [<- hev e' he]; exact hz, rfl, rfl, rfl, rfl, fun _ => rfl⟩
 have forth : ∀ e' y, σ.ev e' = some y -> ∃ z, (σ.sh e x).ev e' = some z /\ z.on = y.on /\ z.gen = y.gen := fun e' y hy => by
  by_cases he : e' = e
  ·subst he
   rw [hx] at hy
   cases hy
   exact ⟨_, hee, rfl, rfl⟩
  ·exact ⟨y, by rw [hev e' he]; exact hy, rfl, rfl⟩
 have hon : ∀ e', (σ.sh e x).On e' -> σ.On e' := fun e' ⟨z, hz, h1⟩ => by
  obtain ⟨y, k1, k2, _⟩ := back e' z hz
  exact ⟨y, k1, k2.trans h1⟩
 have hf : ∀ b, Fix σ g w b -> Fix (σ.sh e x) g w b := fun b hf => ⟨hf.1, fun e' z hz h1 => by
  obtain ⟨y, k1, k2, _⟩ := back e' z hz
  exact hf.2.1 e' y k1 (k2.trans h1), hf.2.2⟩
 have hfr : ∀ b, zbr σ g w b -> zbr (σ.sh e x) g w b := fun b hb => ⟨hf b hb.1, fun e' h' => hb.2 e' (hon e' h')⟩
 have hhas : ∀ e' n, σ.has e' n -> (σ.sh e x).has e' n := fun e' n ⟨y, hy, h1⟩ => by
  obtain ⟨z, k1, k2, k3⟩ := forth e' y hy
  refine ⟨z, k1, ?_⟩
  rw [k3]; exact h1
 have cr : ∀ c v, CR σ g w c v -> CR (σ.sh e x) g w c v := fun c v hc => by
  cases c with
  | t y => exact zai.keep (fun _ _ => rfl) hf y v hc
  | nl s => exact hc
  | ow e' n => exact ⟨hc.1, hhas e' n hc.2⟩
  | bx b o => exact hc
  | el cs o => obtain ⟨b, q, h1, h2, h3⟩ := hc; exact ⟨b, q, h1, hf b h2, zaz.keep (fun _ _ => rfl) hf b rfl q cs h3⟩
  | eo e' s sz i o => obtain ⟨b, n, c, h1, h2, h3, h4⟩ := hc; exact ⟨b, n, c, h1, h2, h3, hhas e' s h4⟩
  | vw e' s sz i => obtain ⟨b, n, c, h1, h2, h3, h4⟩ := hc; exact ⟨b, n, c, h1, h2, h3, hhas e' s h4⟩
  | fn f caps => exact hc
  | cv u => exact hc
  | any => trivial
  | rn y => exact zai.keep (fun _ _ => rfl) hfr y v hc
  | er cs o => obtain ⟨b, q, h1, h2, h3⟩ := hc; exact ⟨b, q, h1, hfr b h2, zaz.keep (fun _ _ => rfl) hfr b rfl q cs h3⟩
 have vid : ∀ y : V, V.map (fun c => c) y = y := fun y => by
  cases y with
  | one c => rfl
  | agg cs => show V.agg (cs.map fun c => c) = _; rw [List.map_id']
  | tup xs => show V.tup (xs.map fun x => (x.1, x.2.map fun c => c)) = _; simp
 refine ⟨g, ⟨h.defers, h.size, h.anew, fun i => by rw [<- vid ((σ.sh e x).sl i)]; exact VR.map cr (h.slots i), fun b cs hb => ?_, h.base, h.inj, fun e' z hz h1 => ?_, fun e' z hz h1 => ?_, h.slc, fun e' h1 => h.ebase e' (hon e' h1), fun e' h1 => h.etop e' (hon e' h1), fun e' h1 => h.nodup e' (hon e' h1), fun e' e2 h1 h2 h3 => h.apart e' e2 (hon e' h1) (hon e2 h2) h3, fun e' k he hk => h.ebx e' k (hon e' he) hk⟩, rfl, rfl⟩
 ·obtain ⟨vs, ty, k1, k2⟩ := h.boxes b cs hb
  refine ⟨vs, ty, k1, ?_⟩
  have := CRs.map (f := fun c => c) cr k2
  rwa [List.map_id'] at this
 ·obtain ⟨y, y1, y2, y3, y4, y5, y6⟩ := back e' z hz
  obtain ⟨ao, cap, e1, e2, e3, e4⟩ := h.evs e' y y1 (y2.trans h1)
  rw [y3, y5] at e1
  rw [y5] at e2
  refine ⟨ao, cap, e1, e2, e3, ?_⟩
  rcases e4 with e4 | ⟨b, cells, ty, fps, k1, k2, k3, k4, k5⟩
  ·rw [y5] at e4; exact Or.inl e4
  ·rw [y4] at k4
   refine Or.inr ⟨b, cells, ty, fps, k1, k2, k3, k4, ?_⟩
   by_cases he : e' = e
   ·subst he
    rw [hee] at hz
    cases hz
    rw [hx] at y1
    cases y1
    rw [if_neg (by simp)]
    split at k5
    ·rw [hr] at k5 ⊢
     unfold zag at k5
     refine ⟨k5, ?_⟩
     unfold zak; trivial
    ·exact ⟨k5.1, by rw [hr]; unfold zak; trivial⟩
   ·have := y6 he
    subst this
    split at k5
    ·rw [if_pos ‹_›]; exact k5
    ·rw [if_neg ‹_›]; exact ⟨k5.1, zak.keep (fun _ _ => rfl) hf b rfl 0 y.sz y.rows k5.2⟩
 ·obtain ⟨y, y1, y2, y3, y4, y5, y6⟩ := back e' z hz
  have := h.offs e' y y1 (y2.trans h1)
  rw [y3, y4, y5] at this
  exact ⟨zai.keep (fun _ _ => rfl) hf _ _ this.1, this.2⟩
theorem wk_sh {σ σ' : St} (e : Nat) (k : zam (σ.ev e) fun x => x.rows = [] /\ Wk (σ.sh e x) σ') : Wk σ σ' := by
 obtain ⟨x, hx, h1, h2⟩ := zal k
 intro n0 N g a w h
 obtain ⟨g1, r1, r2, r3⟩ := sh_wk hx h1 n0 N g a w h
 obtain ⟨g2, s1, s2, s3⟩ := h2 n0 N g1 a w r1
 exact ⟨g2, s1, s2.trans r2, s3.trans r3⟩
attribute [go_sem] St.sh
end Go.Proofs.YtaaniggpnljckaaGreat
namespace Go.Proofs.YtaaniggpnljckaaGreat
set_option linter.unusedSimpArgs false
set_option linter.unusedVariables false
set_option linter.unusedSectionVars false
set_option maxRecDepth 4000
open Go.RowKit
variable {P : Program}
theorem qf5 {σ : St} {g : Gh} {w : World} {e : Nat} {x : Ev} (he : σ.ev e = none) : ∀ {c : C} {v : Value}, CR σ g w c v -> C.fs e x c = c := fun {c v} hc => by
 have key : ∀ e' n, σ.has e' n -> e' ≠ e := fun e' n ⟨y, hy, _⟩ h => by
  rw [h, he] at hy; cases hy
 cases c with
 | ow e' n =>
  show (if e' = e then (if n = x.gen then C.t (.sl x.sz x.rows) else .any) else .ow e' n) = _
  rw [if_neg (key e' n hc.2)]
 | eo e' s sz i o =>
  obtain ⟨b, n, c, h1, h2, h3, h4⟩ := hc
  show (if e' = e then C.any else .eo e' s sz i o) = _
  rw [if_neg (key e' s h4)]
 | vw e' s sz o =>
  obtain ⟨b, n, c, h1, h2, h3, h4⟩ := hc
  show (if e' = e then C.any else .vw e' s sz o) = _
  rw [if_neg (key e' s h4)]
 | _ => rfl
theorem zmx {σ : St} {g : Gh} {w : World} {e : Nat} {x : Ev} (he : σ.ev e = none) : ∀ {cs : List C} {vs : List Value}, CRs σ g w cs vs -> cs.map (C.fs e x) = cs
 | [], _, _ => rfl
 | c :: cs, _, h => by
  obtain ⟨v, vs', rfl, h1, h2⟩ := h
  rw [List.map_cons, qf5 he h1, zmx he h2]
theorem nor_t {σ : St} {g : Gh} {w : World} {e : Nat} {x : Ev} (he : σ.ev e = none) : ∀ {xs : List (Bool × List C)} {vs : List Value}, CRt σ g w xs vs -> xs.map (fun y => (y.1, y.2.map (C.fs e x))) = xs
 | [], _, _ => rfl
 | y :: ys, _, h => by
  obtain ⟨v, vs', rfl, h1, h2⟩ := h
  rw [List.map_cons, nor_t he h2]
  obtain ⟨b, cs⟩ := y
  unfold CRx at h1
  simp only at h1 ⊢
  split at h1
  ·obtain ⟨a, _, h1⟩ := h1
   rw [zmx he h1]
  ·obtain ⟨c, rfl, h1⟩ := h1
   rw [List.map_cons, qf5 he h1, List.map_nil]
theorem nor_v {σ : St} {g : Gh} {w : World} {e : Nat} {x : Ev} (he : σ.ev e = none) {y : V} {v : Value} (h : VR σ g w y v) : V.map (C.fs e x) y = y := by
 cases y with
 | one c => exact congrArg V.one (qf5 he h)
 | agg cs => obtain ⟨a, _, h⟩ := h; exact congrArg V.agg (zmx he h)
 | tup xs => obtain ⟨vs, _, h⟩ := h; exact congrArg V.tup (nor_t he h)
section
variable {ks : List Fr} {Q : Exit -> St -> Prop} {σ : St} {ops : Array Oper} {os : List Oper} {L : List (List Ky × List Ky)} {d : Nat} {t : TypeId} {ty : TypeId} {ps : String} {af : Array Edge} {len : Nat} {parts : Array (Nat × Operand)} {n : Nat} {rs : List (List C)} {rows : List (List T)}
theorem qdc (h : zhv P (σ.get P) t len parts = some (n, rs) /\ zn5 σ rs = some rows /\ σ.ev (d * 32) = none) : zae P ⟨some d, .buildSlice t len parts, ty, ps, af, none⟩ σ (σ.put (some d) (.one (.t (.sl n rows)))) := fun n0 N g a w hR hn hdN => by
 refine Oper.wp_mono ?_ (zhg (P := P) (ty := ty) (ps := ps) (af := af) h n0 N g a w hR hn hdN)
 rintro a' w' ⟨g', r1, r2, r3, r4⟩
 have he := h.2.2
 obtain ⟨g2, s1, s2, s3⟩ := fs_wk (σ := (σ.apd (d * 32) [] ⟨false, n, rows, 0, true⟩).put (some d) (.one (.ow (d * 32) 0))) (e := d * 32) (x := ⟨false, n, rows, 0, true⟩) (zac _ _ _) rfl rfl n0 N g' a' w' r1
 refine ⟨g2, ?_, r2, s2.trans r3, s3.trans r4⟩
 have e1 : ((σ.apd (d * 32) [] ⟨false, n, rows, 0, true⟩).put (some d) (.one (.ow (d * 32) 0))).fs (d * 32) ⟨false, n, rows, 0, true⟩ = σ.put (some d) (.one (.t (.sl n rows))) := by
  have q1 : fsS (upd σ.sl d (.one (.ow (d * 32) 0))) (d * 32) ⟨false, n, rows, 0, true⟩ = upd σ.sl d (.one (.t (.sl n rows))) := funext fun i => by
   show V.map _ (upd σ.sl d _ i) = _
   by_cases hi : i = d
   ·subst hi
    rw [zac, zac]
    show V.one (C.fs _ _ (.ow _ 0)) = _
    simp [C.fs]
   ·rw [zah _ _ hi, zah _ _ hi]
    exact nor_v he (hR.slots i)
  have q2 : fsB σ.bx (d * 32) ⟨false, n, rows, 0, true⟩ = σ.bx := funext fun b => by
   show (σ.bx b).map _ = _
   cases hb : σ.bx b with
   | none => rfl
   | some cs =>
    obtain ⟨vs, ty', k1, k2⟩ := hR.boxes b cs hb
    exact congrArg some (zmx he k2)
  have q3 : fsE (upd σ.ev (d * 32) (some ⟨false, n, rows, 0, true⟩)) (d * 32) = σ.ev := funext fun k => by
   show (if k = d * 32 then none else upd σ.ev (d * 32) _ k) = _
   by_cases hk : k = d * 32
   ·rw [if_pos hk, hk, he]
   ·rw [if_neg hk, zah _ _ hk]
  show St.mk (fsS (upd σ.sl d (.one (.ow (d * 32) 0))) (d * 32) ⟨false, n, rows, 0, true⟩) (fsB σ.bx (d * 32) ⟨false, n, rows, 0, true⟩) (fsE (upd σ.ev (d * 32) (some ⟨false, n, rows, 0, true⟩)) (d * 32)) = _
  rw [q1, q2, q3]
  rfl
 rw [e1] at s1
 exact s1
def slOf : Option (Ev × List (Nat × Ev)) -> T
 | some (x, _) => .sl x.sz x.rows
 | none => .sl 0 []
theorem ze2 (h : zam (blS P σ t len parts) fun _ => σ.ev (d * 32) = none) (k : exo P ops os ks Q (σ.put (some d) (.one (.t (slOf (blS P σ t len parts)))))) : exo P ops (⟨some d, .buildSlice t len parts, ty, ps, af, none⟩ :: os) ks Q σ := by
 obtain ⟨⟨x, cons⟩, h1, h2⟩ := zal h
 rw [h1] at k
 unfold blS at h1
 obtain ⟨p, e1, h1⟩ := Option.bind_eq_some_iff.1 h1
 obtain ⟨q, e2, h1⟩ := Option.map_eq_some_iff.1 h1
 simp only [Prod.mk.injEq] at h1
 obtain ⟨rfl, rfl⟩ := h1
 exact zca rfl rfl (qdc ⟨e1, e2, h2⟩) k
end
attribute [go_sem] slOf
end Go.Proofs.YtaaniggpnljckaaGreat
