/-
  The walk over plain data, and contracts of functions of the program and of its laws.
  Conditions: those that each theorem names.
-/
import Derived.Test.YteeaofpphmhjdaaQQ5
namespace Go.Proofs.Yteeaofpphmhjdaa
set_option linter.unusedSimpArgs false
set_option linter.unusedVariables false
set_option linter.unusedSectionVars false
set_option maxRecDepth 4000
open Go.RowKit
def cmR (S : List (List Int)) (n : Int) : Int × Bool := if (zey S && (inB n 0 12 && decide (zb2 S <= n))) = true then ((zes S n.toNat : Nat), true) else (0, false)
def zvb (S : List (List Int)) (n k : Nat) : Nat := (List.range k).countP fun j => isM S (asg 1 n j)
theorem zlq (S : List (List Int)) (n : Nat) : zes S n = zvb S n (2 ^ n) := zv1 S n
theorem zrc (S : List (List Int)) (n : Nat) : zvb S n 0 = 0 := rfl
theorem zo1 (S : List (List Int)) (n k : Nat) : zvb S n (k + 1) = zvb S n k + if isM S (asg 1 n k) = true then 1 else 0 := by
 unfold zvb
 rw [List.range_succ, List.countP_append, List.countP_singleton]
theorem zpj (S : List (List Int)) (n k : Nat) : zvb S n k <= k := by
 have := List.countP_le_length (p := fun j => isM S (asg 1 n j)) (l := List.range k)
 rwa [List.length_range] at this
set_option maxHeartbeats 1000000 in
theorem zdl (S : List (List Int)) (n : Int) : FC Try.prog 21 [.one (za0 S), iD n] [iD (cmR S n).1, bD (cmR S n).2] := by
 have H1 := zbr S
 have H2 := zli n 0 12
 unfold cmR
 cases h1 : zey S
 ·rw [h1] at H1
  rw [Bool.false_and, if_neg (by simp)]
  refine zaw Try.call21 Try.func21 rfl (by kernel_rfl) (zbf (by kernel_rfl)) ?_
  simp -implicitDefEqProofs only [go_sem, Try.results21]
  refine callF (H1) (by simp -implicitDefEqProofs only [go_sem]) ?_
  simp -implicitDefEqProofs only [go_sem]
 ·rw [h1] at H1
  cases h2 : inB n 0 12
  ·rw [h2] at H2
   rw [Bool.false_and, Bool.and_false, if_neg (by simp)]
   refine zaw Try.call21 Try.func21 rfl (by kernel_rfl) (zbf (by kernel_rfl)) ?_
   simp -implicitDefEqProofs only [go_sem, Try.results21]
   refine callF (H1) (by simp -implicitDefEqProofs only [go_sem]) ?_
   simp -implicitDefEqProofs only [go_sem]
   refine callF (H2) (by simp -implicitDefEqProofs only [go_sem]) ?_
   simp -implicitDefEqProofs only [go_sem]
  ·rw [h2] at H2
   have HG := zf2 S fun c hc => zi9 (zbe h1 hc)
   by_cases hm : zb2 S <= n
   ·rw [show decide (zb2 S <= n) = true by simpa using hm, Bool.and_self, Bool.and_self, if_pos rfl]
    have hb : 0 <= n /\ n <= 12 := by unfold inB at h2; simpa using h2
    obtain ⟨m, rfl⟩ : ∃ m : Nat, n = m := ⟨n.toNat, by omega⟩
    rw [Int.toNat_natCast, zlq]
    have hm12 : m <= 12 := by omega
    have hp : 2 ^ m <= 4096 := Nat.pow_le_pow_right (n := 2) (by omega) hm12
    have hgt : ((m : Int) < zb2 S) = False := by simpa using hm
    have hs : IntKind.i64.wrap (1 * 2 ^ min m 64) = ((2 ^ m : Nat) : Int) := by
     rw [Nat.min_eq_left (by omega), Int.one_mul, show ((2 : Int) ^ m) = ((2 ^ m : Nat) : Int) by simp]
     generalize 2 ^ m = N at hp
     exact zak (by omega) (by omega)
    refine zaw Try.call21 Try.func21 rfl (by kernel_rfl) (zbf (by kernel_rfl)) ?_
    simp -implicitDefEqProofs only [go_sem, Try.results21]
    refine callF (H1) (by simp -implicitDefEqProofs only [go_sem]) ?_
    simp -implicitDefEqProofs only [go_sem]
    refine callF (H2) (by simp -implicitDefEqProofs only [go_sem]) ?_
    simp -implicitDefEqProofs only [go_sem]
    refine callF (HG) (by simp -implicitDefEqProofs only [go_sem, hgt]) ?_
    simp -implicitDefEqProofs only [go_sem, hgt]
    refine zap (fun k : Nat => hd [(0, vT (za0 S)), (1, vI m), (6, vI (zvb S m k : Nat)), (23, vI (2 ^ m : Nat)), (24, vI k)] [] []) (fun k => k <= 2 ^ m) (fun k => 2 ^ m - k) 0 (zah ?_) (Nat.zero_le _) ?_
    ·simp -implicitDefEqProofs only [go_sem]
     rw [hs, zrc]
     exact ⟨rfl, rfl⟩
    ·intro k hk
     by_cases hkl : k < 2 ^ m
     ·have HA := zc8 k m hm12 (by omega)
      have HM := zhv S (asg 1 m k)
      have HF := flag_c (isM S (asg 1 m k))
      have hwk : IntKind.i64.wrap ((k : Int) + 1) = ((k + 1 : Nat) : Int) := za2 (by omega)
      have hkl' : ((k : Int) < ((2 ^ m : Nat) : Int)) = True := by simpa using (by omega : (k : Int) < ((2 ^ m : Nat) : Int))
      have hle := zpj S m k
      have hsu := zo1 S m k
      simp -implicitDefEqProofs only [go_sem, hkl']
      refine callF (HA) (by simp -implicitDefEqProofs only [go_sem]) ?_
      simp -implicitDefEqProofs only [go_sem]
      refine callF (HM) (by simp -implicitDefEqProofs only [go_sem]) ?_
      simp -implicitDefEqProofs only [go_sem]
      refine callF (HF) (by simp -implicitDefEqProofs only [go_sem]) ?_
      simp -implicitDefEqProofs only [go_sem]
      rw [hwk]
      refine ⟨k + 1, hkl, by omega, zah ?_⟩
      simp -implicitDefEqProofs only [go_sem]
      rw [hsu]
      cases isM S (asg 1 m k)
      ·exact zio (by rw [if_neg (by simp), if_neg (by simp)]; exact zak (by omega) (by omega))
      ·exact zio (by rw [if_pos rfl, if_pos rfl]; exact (zak (by omega) (by omega)).trans (by omega))
     ·have hkl' : ((k : Int) < ((2 ^ m : Nat) : Int)) = False := by simpa using (by omega : ¬ (k : Int) < ((2 ^ m : Nat) : Int))
      rw [show 2 ^ m = k by omega]
      rw [show 2 ^ m = k by omega] at hkl'
      simp -implicitDefEqProofs only [go_sem, hkl']
      skip
   ·have hgt : (n < zb2 S) = True := by simpa using (by omega : n < zb2 S)
    rw [show decide (zb2 S <= n) = false by simpa using hm, Bool.and_false, Bool.and_false, if_neg (by simp)]
    refine zaw Try.call21 Try.func21 rfl (by kernel_rfl) (zbf (by kernel_rfl)) ?_
    simp -implicitDefEqProofs only [go_sem, Try.results21]
    refine callF (H1) (by simp -implicitDefEqProofs only [go_sem]) ?_
    simp -implicitDefEqProofs only [go_sem]
    refine callF (H2) (by simp -implicitDefEqProofs only [go_sem]) ?_
    simp -implicitDefEqProofs only [go_sem]
    refine callF (HG) (by simp -implicitDefEqProofs only [go_sem, hgt]) ?_
    simp -implicitDefEqProofs only [go_sem, hgt]
    skip
theorem zg9 (S : List (List Int)) : ∀ (n : Nat) (a : List Int) (v : Int), zlc S n a v <= 2 ^ n
 | 0, a, v => by
  unfold zlc
  split <;> simp
 | n + 1, a, v => by
  have h1 := zg9 S n (a ++ [v]) (v + 1)
  have h2 := zg9 S n (a ++ [-v]) (v + 1)
  unfold zlc
  split
  ·exact Nat.zero_le _
  ·rw [Nat.pow_succ]
   dsimp only
   omega
theorem zk1 {S : List (List Int)} {a : List Int} (ha : Cons a) : (0 <= zrz S a) = ((S.any fun c => fal a c) = true) := by
 rw [zwv S ha, <- List.findIdx?_isSome]
 cases S.findIdx? (fal a) with
 | none => simp
 | some i => simp
set_option maxHeartbeats 1000000 in
theorem zeb (S : List (List Int)) (hS : ∀ c ∈ S, Sm c) : ∀ (n : Nat) (a : List Int) (v last : Int), n <= 12 -> Pre a v -> v + n <= 100 -> last = v + n - 1 -> a.length + n <= 1000 -> FC Try.prog 73 [.one (za0 S), .one (zaz a), iD v, iD last] [iD (zlc S n a v : Nat)]
 | n, a, v, last, hn, hp, hv, hlast, hal => by
  have HF := zf7 S a hS
  have hfn := zk1 (S := S) hp.cons
  have hvp := hp.pos
  unfold zlc
  by_cases hf : (S.any fun c => fal a c) = true
  ·rw [if_pos hf]
   have h0 : (0 <= zrz S a) = True := by rw [hfn]; simpa using hf
   refine zaw Try.call73 Try.func73 rfl (by kernel_rfl) (zbf (by kernel_rfl)) ?_
   simp -implicitDefEqProofs only [go_sem, Try.results73]
   refine callF (HF) (by simp -implicitDefEqProofs only [go_sem, h0]) ?_
   simp -implicitDefEqProofs only [go_sem, h0]
   skip
  ·rw [if_neg hf]
   have h0 : (0 <= zrz S a) = False := by rw [hfn]; simpa using hf
   cases n with
   | zero =>
    have hgt : (last < v) = True := by simpa using (by omega : last < v)
    refine zaw Try.call73 Try.func73 rfl (by kernel_rfl) (zbf (by kernel_rfl)) ?_
    simp -implicitDefEqProofs only [go_sem, Try.results73]
    refine callF (HF) (by simp -implicitDefEqProofs only [go_sem, h0, hgt]) ?_
    simp -implicitDefEqProofs only [go_sem, h0, hgt]
    skip
   | succ n =>
    have hgt : (last < v) = False := by simpa using (by omega : ¬ last < v)
    have HO := zq4 a (by omega)
    have HC1 := zeb S hS n (a ++ [v]) (v + 1) last (by omega) (hp.put (zcr (by omega))) (by omega) (by omega) (by simp; omega)
    have HC2 := zeb S hS n (a ++ [-v]) (v + 1) last (by omega) (hp.put (by rw [zek, zcr (by omega)])) (by omega) (by omega) (by simp; omega)
    have hl1 := zg9 S n (a ++ [v]) (v + 1)
    have hl2 := zg9 S n (a ++ [-v]) (v + 1)
    have hpw : 2 ^ n <= 4096 := Nat.le_trans (Nat.pow_le_pow_right (n := 2) (by omega) (show n <= 12 by omega)) (by decide)
    have hw1 : IntKind.i64.wrap (v + 1) = v + 1 := zak (by omega) (by omega)
    have hw2 : IntKind.i64.wrap (0 - v) = -v := by rw [zak (by omega) (by omega)]; omega
    have hal1 : a.length <= 4294967295 := by omega
    have hwc : IntKind.i64.wrap ((zlc S n (a ++ [v]) (v + 1) : Nat) + (zlc S n (a ++ [-v]) (v + 1) : Nat) : Int) = ((zlc S n (a ++ [v]) (v + 1) + zlc S n (a ++ [-v]) (v + 1) : Nat) : Int) := by rw [zak (by omega) (by omega)]; omega
    refine zaw Try.call73 Try.func73 rfl (by kernel_rfl) (zbf (by kernel_rfl)) ?_
    simp -implicitDefEqProofs only [go_sem, Try.results73]
    refine callF (HF) (by simp -implicitDefEqProofs only [go_sem, h0, hgt]) ?_
    simp -implicitDefEqProofs only [go_sem, h0, hgt]
    refine callF (HO) (by simp -implicitDefEqProofs only [go_sem]) ?_
    simp -implicitDefEqProofs only [go_sem]
    refine zas (by simp -implicitDefEqProofs only [go_sem]) ?_
    simp -implicitDefEqProofs only [go_sem]
    refine apD true (by simp -implicitDefEqProofs only [go_sem, ne_eq, List.length_map, hal1]) ?_
    simp -implicitDefEqProofs only [go_sem, ne_eq, List.length_map, hal1]
    have hm1 : (a.map fun s => [T.int .i64 s]) ++ [[T.int .i64 v]] = (a ++ [v]).map fun s => [T.int .i64 s] := by rw [List.map_append]; rfl
    have hm2 : (a.map fun s => [T.int .i64 s]) ++ [[T.int .i64 (-v)]] = (a ++ [-v]).map fun s => [T.int .i64 s] := by rw [List.map_append]; rfl
    rw [hw1, hm1]
    refine callF (HC1) (by simp -implicitDefEqProofs only [go_sem]) ?_
    simp -implicitDefEqProofs only [go_sem]
    refine callF (HO) (by simp -implicitDefEqProofs only [go_sem]) ?_
    simp -implicitDefEqProofs only [go_sem]
    rw [hw2]
    refine zas (by simp -implicitDefEqProofs only [go_sem]) ?_
    simp -implicitDefEqProofs only [go_sem]
    refine apD true (by simp -implicitDefEqProofs only [go_sem, ne_eq, List.length_map, hal1]) ?_
    simp -implicitDefEqProofs only [go_sem, ne_eq, List.length_map, hal1]
    rw [hw1, hm2]
    refine callF (HC2) (by simp -implicitDefEqProofs only [go_sem]) ?_
    simp -implicitDefEqProofs only [go_sem]
    rw [hwc]
    skip
theorem zub {S : List (List Int)} {n : Int} : inB n (zb2 S) 12 = (inB n 0 12 && decide (zb2 S <= n)) := by
 have := zcf S
 unfold inB
 by_cases h1 : zb2 S <= n <;> by_cases h2 : n <= 12 <;> by_cases h3 : 0 <= n <;> simp [h1, h2, h3]
 omega
theorem zua (S : List (List Int)) (n : Int) : FC Try.prog 22 [.one (za0 S), iD n] [iD (cmR S n).1, bD (cmR S n).2] := by
 have H1 := zlf S
 unfold cmR
 cases h1 : zey S
 ·rw [h1] at H1
  rw [Bool.false_and, if_neg (by simp)]
  refine zaw Try.call22 Try.func22 rfl (by kernel_rfl) (zbf (by kernel_rfl)) ?_
  simp -implicitDefEqProofs only [go_sem, Try.results22]
  refine callF (H1) (by simp -implicitDefEqProofs only [go_sem]) ?_
  simp -implicitDefEqProofs only [go_sem]
 ·rw [h1] at H1
  have hS : ∀ c ∈ S, Sm c := fun c hc => zi9 (zbe h1 hc)
  have HM := zfc S hS
  have H2 := zuv n (zb2 S) 12
  rw [zub] at H2
  cases h2 : (inB n 0 12 && decide (zb2 S <= n))
  ·rw [h2] at H2
   rw [Bool.and_false, if_neg (by simp)]
   refine zaw Try.call22 Try.func22 rfl (by kernel_rfl) (zbf (by kernel_rfl)) ?_
   simp -implicitDefEqProofs only [go_sem, Try.results22]
   refine callF (H1) (by simp -implicitDefEqProofs only [go_sem]) ?_
   simp -implicitDefEqProofs only [go_sem]
   refine callF (HM) (by simp -implicitDefEqProofs only [go_sem]) ?_
   simp -implicitDefEqProofs only [go_sem]
   refine callF (H2) (by simp -implicitDefEqProofs only [go_sem]) ?_
   simp -implicitDefEqProofs only [go_sem]
  ·rw [h2] at H2
   rw [Bool.and_self, if_pos rfl]
   have hb : 0 <= n /\ n <= 12 /\ zb2 S <= n := by unfold inB at h2; simp at h2; omega
   obtain ⟨m, rfl⟩ : ∃ m : Nat, n = m := ⟨n.toNat, by omega⟩
   have HC := zeb S hS m [] 1 m (by omega) Pre.nil (by omega) (by omega) (by simp; omega)
   rw [zs8 (fun c hc => zbe h1 hc) hb.2.2] at HC
   rw [Int.toNat_natCast]
   refine zaw Try.call22 Try.func22 rfl (by kernel_rfl) (zbf (by kernel_rfl)) ?_
   simp -implicitDefEqProofs only [go_sem, Try.results22]
   refine callF (H1) (by simp -implicitDefEqProofs only [go_sem]) ?_
   simp -implicitDefEqProofs only [go_sem]
   refine callF (HM) (by simp -implicitDefEqProofs only [go_sem]) ?_
   simp -implicitDefEqProofs only [go_sem]
   refine callF (H2) (by simp -implicitDefEqProofs only [go_sem]) ?_
   simp -implicitDefEqProofs only [go_sem]
   refine zas (by simp -implicitDefEqProofs only [go_sem]) ?_
   simp -implicitDefEqProofs only [go_sem]
   refine callF (HC) (by simp -implicitDefEqProofs only [go_sem]) ?_
   simp -implicitDefEqProofs only [go_sem]
set_option maxHeartbeats 1000000 in
theorem zdf (S : List (List Int)) (hS : ∀ c ∈ S, Sm c) : ∀ (n : Nat) (a : List Int) (v last : Int), n <= 12 -> Pre a v -> v + n <= 100 -> last = v + n - 1 -> a.length + n <= 1000 -> FC Try.prog 74 [.one (za0 S), .one (zaz a), iD v, iD last] [.one (zaz ((zry S n a v).getD [])), bD (zry S n a v).isSome]
 | n, a, v, last, hn, hp, hv, hlast, hal => by
  have HF := zf7 S a hS
  have hfn := zk1 (S := S) hp.cons
  have hvp := hp.pos
  have HO := zq4 a (by omega)
  unfold zry
  by_cases hf : (S.any fun c => fal a c) = true
  ·rw [if_pos hf]
   have h0 : (0 <= zrz S a) = True := by rw [hfn]; simpa using hf
   refine zaw Try.call74 Try.func74 rfl (by kernel_rfl) (zbf (by kernel_rfl)) ?_
   simp -implicitDefEqProofs only [go_sem, Try.results74]
   refine callF (HF) (by simp -implicitDefEqProofs only [go_sem, h0]) ?_
   simp -implicitDefEqProofs only [go_sem, h0]
   refine zas (by simp -implicitDefEqProofs only [go_sem]) ?_
   simp -implicitDefEqProofs only [go_sem]
   exact ⟨rfl, rfl⟩
  ·rw [if_neg hf]
   have h0 : (0 <= zrz S a) = False := by rw [hfn]; simpa using hf
   cases n with
   | zero =>
    have hgt : (last < v) = True := by simpa using (by omega : last < v)
    refine zaw Try.call74 Try.func74 rfl (by kernel_rfl) (zbf (by kernel_rfl)) ?_
    simp -implicitDefEqProofs only [go_sem, Try.results74]
    refine callF (HF) (by simp -implicitDefEqProofs only [go_sem, h0, hgt]) ?_
    simp -implicitDefEqProofs only [go_sem, h0, hgt]
    refine callF (HO) (by simp -implicitDefEqProofs only [go_sem]) ?_
    simp -implicitDefEqProofs only [go_sem]
    skip
   | succ n =>
    have hgt : (last < v) = False := by simpa using (by omega : ¬ last < v)
    have HC1 := zdf S hS n (a ++ [v]) (v + 1) last (by omega) (hp.put (zcr (by omega))) (by omega) (by omega) (by simp; omega)
    have HC2 := zdf S hS n (a ++ [-v]) (v + 1) last (by omega) (hp.put (by rw [zek, zcr (by omega)])) (by omega) (by omega) (by simp; omega)
    have hw1 : IntKind.i64.wrap (v + 1) = v + 1 := zak (by omega) (by omega)
    have hw2 : IntKind.i64.wrap (0 - v) = -v := by rw [zak (by omega) (by omega)]; omega
    have hal1 : a.length <= 4294967295 := by omega
    have hm1 : (a.map fun s => [T.int .i64 s]) ++ [[T.int .i64 v]] = (a ++ [v]).map fun s => [T.int .i64 s] := by rw [List.map_append]; rfl
    have hm2 : (a.map fun s => [T.int .i64 s]) ++ [[T.int .i64 (-v)]] = (a ++ [-v]).map fun s => [T.int .i64 s] := by rw [List.map_append]; rfl
    cases h1 : zry S n (a ++ [v]) (v + 1) with
    | some m =>
     rw [h1] at HC1
     have HC1 : FC Try.prog 74 [.one (za0 S), .one (zaz (a ++ [v])), iD (v + 1), iD last] [.one (zaz m), bD true] := HC1
     refine zaw Try.call74 Try.func74 rfl (by kernel_rfl) (zbf (by kernel_rfl)) ?_
     simp -implicitDefEqProofs only [go_sem, Try.results74]
     refine callF (HF) (by simp -implicitDefEqProofs only [go_sem, h0, hgt]) ?_
     simp -implicitDefEqProofs only [go_sem, h0, hgt]
     refine callF (HO) (by simp -implicitDefEqProofs only [go_sem]) ?_
     simp -implicitDefEqProofs only [go_sem]
     refine zas (by simp -implicitDefEqProofs only [go_sem]) ?_
     simp -implicitDefEqProofs only [go_sem]
     refine apD true (by simp -implicitDefEqProofs only [go_sem, ne_eq, List.length_map, hal1]) ?_
     simp -implicitDefEqProofs only [go_sem, ne_eq, List.length_map, hal1]
     rw [hw1, hm1]
     refine callF (HC1) (by simp -implicitDefEqProofs only [go_sem]) ?_
     simp -implicitDefEqProofs only [go_sem]
     rw [h1]
     exact ⟨rfl, rfl⟩
    | none =>
     rw [h1] at HC1
     have HC1 : FC Try.prog 74 [.one (za0 S), .one (zaz (a ++ [v])), iD (v + 1), iD last] [.one (zaz []), bD false] := HC1
     refine zaw Try.call74 Try.func74 rfl (by kernel_rfl) (zbf (by kernel_rfl)) ?_
     simp -implicitDefEqProofs only [go_sem, Try.results74]
     refine callF (HF) (by simp -implicitDefEqProofs only [go_sem, h0, hgt]) ?_
     simp -implicitDefEqProofs only [go_sem, h0, hgt]
     refine callF (HO) (by simp -implicitDefEqProofs only [go_sem]) ?_
     simp -implicitDefEqProofs only [go_sem]
     refine zas (by simp -implicitDefEqProofs only [go_sem]) ?_
     simp -implicitDefEqProofs only [go_sem]
     refine apD true (by simp -implicitDefEqProofs only [go_sem, ne_eq, List.length_map, hal1]) ?_
     simp -implicitDefEqProofs only [go_sem, ne_eq, List.length_map, hal1]
     rw [hw1, hm1]
     refine callF (HC1) (by simp -implicitDefEqProofs only [go_sem]) ?_
     simp -implicitDefEqProofs only [go_sem]
     refine callF (HO) (by simp -implicitDefEqProofs only [go_sem]) ?_
     simp -implicitDefEqProofs only [go_sem]
     rw [hw2]
     refine zas (by simp -implicitDefEqProofs only [go_sem]) ?_
     simp -implicitDefEqProofs only [go_sem]
     refine apD true (by simp -implicitDefEqProofs only [go_sem, ne_eq, List.length_map, hal1]) ?_
     simp -implicitDefEqProofs only [go_sem, ne_eq, List.length_map, hal1]
     rw [hw1, hm2]
     refine callF (HC2) (by simp -implicitDefEqProofs only [go_sem]) ?_
     simp -implicitDefEqProofs only [go_sem]
     rw [h1]
     exact ⟨rfl, rfl⟩
theorem zr7 (S : List (List Int)) : FC Try.prog 23 [.one (za0 S)] [.one (zaz (fmR S).1.1), bD (fmR S).1.2, bD (fmR S).2] := by
 have H1 := zlf S
 unfold fmR
 cases h1 : zey S
 ·rw [h1] at H1
  rw [if_neg (by simp)]
  refine zaw Try.call23 Try.func23 rfl (by kernel_rfl) (zbf (by kernel_rfl)) ?_
  simp -implicitDefEqProofs only [go_sem, Try.results23]
  refine callF (H1) (by simp -implicitDefEqProofs only [go_sem]) ?_
  simp -implicitDefEqProofs only [go_sem]
  refine zas (by simp -implicitDefEqProofs only [go_sem]) ?_
  simp -implicitDefEqProofs only [go_sem]
  skip
 ·rw [h1] at H1
  rw [if_pos rfl]
  have hS : ∀ c ∈ S, Sm c := fun c hc => zi9 (zbe h1 hc)
  have HM := zfc S hS
  have hm := zcf S
  have hm2 := zkj fun c hc => zbe h1 hc
  have HC := zdf S hS (zb2 S).toNat [] 1 (zb2 S) (by omega) Pre.nil (by omega) (by omega) (by simp; omega)
  rw [zqc fun c hc => zbe h1 hc] at HC
  cases hf : zm7 S with
  | none =>
   rw [hf] at HC
   have HC : FC Try.prog 74 [.one (za0 S), .one (zaz []), iD 1, iD (zb2 S)] [.one (zaz []), bD false] := HC
   refine zaw Try.call23 Try.func23 rfl (by kernel_rfl) (zbf (by kernel_rfl)) ?_
   simp -implicitDefEqProofs only [go_sem, Try.results23]
   refine callF (H1) (by simp -implicitDefEqProofs only [go_sem]) ?_
   simp -implicitDefEqProofs only [go_sem]
   refine zas (by simp -implicitDefEqProofs only [go_sem]) ?_
   simp -implicitDefEqProofs only [go_sem]
   refine callF (HM) (by simp -implicitDefEqProofs only [go_sem]) ?_
   simp -implicitDefEqProofs only [go_sem]
   refine callF (HC) (by simp -implicitDefEqProofs only [go_sem]) ?_
   simp -implicitDefEqProofs only [go_sem]
  | some m =>
   rw [hf] at HC
   have HC : FC Try.prog 74 [.one (za0 S), .one (zaz []), iD 1, iD (zb2 S)] [.one (zaz m), bD true] := HC
   refine zaw Try.call23 Try.func23 rfl (by kernel_rfl) (zbf (by kernel_rfl)) ?_
   simp -implicitDefEqProofs only [go_sem, Try.results23]
   refine callF (H1) (by simp -implicitDefEqProofs only [go_sem]) ?_
   simp -implicitDefEqProofs only [go_sem]
   refine zas (by simp -implicitDefEqProofs only [go_sem]) ?_
   simp -implicitDefEqProofs only [go_sem]
   refine callF (HM) (by simp -implicitDefEqProofs only [go_sem]) ?_
   simp -implicitDefEqProofs only [go_sem]
   refine callF (HC) (by simp -implicitDefEqProofs only [go_sem]) ?_
   simp -implicitDefEqProofs only [go_sem]
end Go.Proofs.Yteeaofpphmhjdaa
namespace Go.Proofs.Yteeaofpphmhjdaa
set_option linter.unusedSimpArgs false
set_option linter.unusedVariables false
set_option linter.unusedSectionVars false
set_option maxRecDepth 4000
open Go.RowKit
theorem zga {B : Int} : ∀ (c : List Int) (n : Int), n <= B -> (∀ l ∈ c, ab l <= B) -> c.foldl (fun m l => max m (ab l)) n <= B
 | [], n, h, _ => h
 | l :: c, n, h, hc => by
  rw [List.foldl_cons]
  exact zga c _ (by have := hc l (by simp); omega) fun x hx => hc x (by simp [hx])
theorem zgi {B : Int} : ∀ (S : List (List Int)) (n : Int), n <= B -> (∀ c ∈ S, ∀ l ∈ c, ab l <= B) -> S.foldl (fun n c => c.foldl (fun m l => max m (ab l)) n) n <= B
 | [], n, h, _ => h
 | c :: S, n, h, hc => by
  rw [List.foldl_cons]
  exact zgi S _ (zga c n h (hc c (by simp))) fun d hd => hc d (by simp [hd])
def cmL (m : Int) : List Int := [m, m, m + 1, m - 1, -1, 13]
def drCM (code : List UInt8) : List (List Int) × Int := ((zm9 (q0 code)).2, (zfv ((zm9 (q0 code)).1.pick 7).1 ((cmL (zb2 (zm9 (q0 code)).2)).take (3 + ((zm9 (q0 code)).1.pick 7).2.toNat / 2))).2)
set_option maxHeartbeats 1000000 in
theorem ztl (code : List UInt8) : FC Try.prog 20 [.one (zmj code)] [.one (za0 (drCM code).1), iD (drCM code).2] := by
 have H := zs6 (q := q0 code) (code := code) rfl (by unfold q0; simp)
 have hg := zww (q0 code)
 have hpos := hg.pos
 have hcd := hg.code.trans (show (q0 code).code = code from rfl)
 have hlen := hg.len
 have hlits := hg.lits
 have h00 : (q0 code).pos = 0 := rfl
 have h01 : (q0 code).seed = 0 := rfl
 unfold drCM
 generalize zm9 (q0 code) = x at H hpos hcd hlen hlits ⊢
 obtain ⟨Q, S⟩ := x
 simp only at H hpos hcd hlen hlits ⊢
 have hS : ∀ c ∈ S, Sm c := fun c hc l hl => by have := (hlits c hc).1 l hl; omega
 have HM := zfc S hS
 have hm0 := zcf S
 have hm1 : zb2 S <= 13 := zgi S 0 (by omega) fun c hc l hl => by have := (hlits c hc).1 l hl; unfold ab; omega
 generalize zb2 S = m at HM hm0 hm1 ⊢
 have H2 := zcw hcd (by omega) 7 (by omega)
 have p2 := Q.pick_pos 7
 have b2 := Q.pick_bd (n := 7) (by omega)
 have c2 := (Q.pick_code 7).trans hcd
 generalize Q.pick 7 = y at H2 p2 c2 b2 ⊢
 obtain ⟨Q2, z⟩ := y
 simp only at H2 p2 c2 b2 ⊢
 obtain ⟨w, rfl⟩ : ∃ w : Nat, z = w := ⟨z.toNat, by omega⟩
 rw [Int.toNat_natCast]
 have hw1 : IntKind.i64.wrap (m + 1) = m + 1 := zak (by omega) (by omega)
 have hw2 : IntKind.i64.wrap (m - 1) = m - 1 := zak (by omega) (by omega)
 have hw3 : IntKind.i64.wrap ((w : Int).tdiv 2) = ((w / 2 : Nat) : Int) := by rw [Int.tdiv_eq_ediv_of_nonneg (by omega)]; rw [zak (by omega) (by omega)]; omega
 have hw4 : IntKind.i64.wrap (3 + ((w / 2 : Nat) : Int)) = ((3 + w / 2 : Nat) : Int) := by rw [zak (by omega) (by omega)]; omega
 have hl6 : (cmL m).length = 6 := rfl
 have H3 := zwl c2 (by omega) ((cmL m).take (3 + w / 2)) (by rw [List.length_take, hl6]; omega) (by rw [List.length_take, hl6]; omega)
 generalize zfv Q2 ((cmL m).take (3 + w / 2)) = v at H3 ⊢
 obtain ⟨Q3, u⟩ := v
 simp only at H3 ⊢
 rw [show zew code (q0 code) = [[(false, zmj code), (false, .int .i64 0), (false, .int .u64 0)]] from rfl] at H
 refine zej Try.call20 Try.func20 rfl (by kernel_rfl) (zbf (by kernel_rfl)) ?_
 simp -implicitDefEqProofs only [go_sem, Try.results20]
 refine zar [4] [9] [8] [] (H) (by decide) rfl (by simp -implicitDefEqProofs only [go_sem]) (by simp -implicitDefEqProofs only [go_sem]) (by simp -implicitDefEqProofs only [go_sem]) (by simp -implicitDefEqProofs only [go_sem]) ?_
 simp -implicitDefEqProofs only [go_sem]
 refine callF (HM) (by simp -implicitDefEqProofs only [go_sem]) ?_
 simp -implicitDefEqProofs only [go_sem]
 refine callF (HM) (by simp -implicitDefEqProofs only [go_sem]) ?_
 simp -implicitDefEqProofs only [go_sem]
 refine callF (HM) (by simp -implicitDefEqProofs only [go_sem]) ?_
 simp -implicitDefEqProofs only [go_sem]
 refine callF (HM) (by simp -implicitDefEqProofs only [go_sem]) ?_
 simp -implicitDefEqProofs only [go_sem]
 rw [hw1, hw2]
 refine zas (by simp -implicitDefEqProofs only [go_sem]) ?_
 simp -implicitDefEqProofs only [go_sem]
 refine frzO 736 rfl rfl ?_
 simp -implicitDefEqProofs only [go_sem]
 refine zar [11, 12, 23] [24] [8] [] (H2) (by decide) rfl (by simp -implicitDefEqProofs only [go_sem]) (by simp -implicitDefEqProofs only [go_sem]) (by simp -implicitDefEqProofs only [go_sem]) (by simp -implicitDefEqProofs only [go_sem]) ?_
 simp -implicitDefEqProofs only [go_sem]
 rw [hw3, hw4]
 refine ⟨by omega, by omega, ?_⟩
 have hmt : List.take (((3 + w / 2 : Nat) : Int)).toNat [[T.int .i64 m], [T.int .i64 m], [T.int .i64 (m + 1)], [T.int .i64 (m - 1)], [T.int .i64 (-1)], [T.int .i64 13]] = ((cmL m).take (3 + w / 2)).map fun s => [T.int .i64 s] := by rw [Int.toNat_natCast, List.map_take]; rfl
 rw [hmt]
 generalize (cmL m).take (3 + w / 2) = L at H3
 refine zar [11] [12, 28] [8] [] (H3) (by decide) rfl (by simp -implicitDefEqProofs only [go_sem]) (by simp -implicitDefEqProofs only [go_sem]) (by simp -implicitDefEqProofs only [go_sem]) (by simp -implicitDefEqProofs only [go_sem]) ?_
 simp -implicitDefEqProofs only [go_sem]
 skip
end Go.Proofs.Yteeaofpphmhjdaa
namespace Go.Proofs.Yteeaofpphmhjdaa
set_option linter.unusedSimpArgs false
set_option linter.unusedVariables false
set_option linter.unusedSectionVars false
set_option maxRecDepth 4000
open Go.RowKit
theorem cmR_ok {S : List (List Int)} {n : Int} (h : (cmR S n).2 = true) : zey S = true /\ 0 <= n /\ n <= 12 /\ zb2 S <= n /\ (cmR S n).1 = (zes S n.toNat : Nat) := by
 unfold cmR at h ⊢
 cases hc : (zey S && (inB n 0 12 && decide (zb2 S <= n)))
 ·rw [hc] at h; cases h
 ·rw [if_pos rfl]
  rw [Bool.and_eq_true, Bool.and_eq_true] at hc
  obtain ⟨h1, h2, h3⟩ := hc
  unfold inB at h2
  simp at h2 h3
  exact ⟨h1, by omega, by omega, h3, rfl⟩
theorem zwa (S : List (List Int)) (n : Nat) : zes S n <= 2 ^ n := by
 rw [zlq]; exact zpj _ _ _
theorem zux {S : List (List Int)} {n : Nat} (h1 : zey S = true) (hn : n <= 12) (hm : zb2 S <= n) : cmR S n = (((zes S n : Nat) : Int), true) := by
 unfold cmR
 rw [h1, show inB (n : Int) 0 12 = true by unfold inB; simp; omega, show decide (zb2 S <= (n : Int)) = true by simpa using hm]
 rfl
set_option maxHeartbeats 4000000 in
theorem zdy (code : List UInt8) : FC Try.prog 5 [.one (zmj code)] [bD true] := by
 have HB := vBig_c code
 have HD := ztl code
 by_cases hbig : (65536 : Int) < code.length
 ·rw [show decide ((65536 : Int) < code.length) = true by simpa using hbig] at HB
  refine zaw Try.call5 Try.func5 rfl (by kernel_rfl) (zbf (by kernel_rfl)) ?_
  simp -implicitDefEqProofs only [go_sem, Try.results5]
  refine callF (HB) (by simp -implicitDefEqProofs only [go_sem]) ?_
  simp -implicitDefEqProofs only [go_sem]
 ·rw [show decide ((65536 : Int) < code.length) = false by simpa using hbig] at HB
  generalize drCM code = x at HD
  obtain ⟨S, n⟩ := x
  simp only at HD
  have H1 := zdl S n
  have H2 := zua S n
  have H3 := ziq S
  have H4 := zr7 S
  have HV := fun L : List Int => zv3 L L
  simp only [zia] at HV
  cases hok : (cmR S n).2
  ·rw [hok] at H1 H2
   generalize (cmR S n).1 = k at H1 H2
   generalize fmR S = x at H3 H4
   obtain ⟨⟨m, f⟩, o⟩ := x
   simp only at H3 H4
   refine zej Try.call5 Try.func5 rfl (by kernel_rfl) (zbf (by kernel_rfl)) ?_
   simp -implicitDefEqProofs only [go_sem, Try.results5]
   refine callF (HB) (by simp -implicitDefEqProofs only [go_sem]) ?_
   simp -implicitDefEqProofs only [go_sem]
   refine callF (HD) (by simp -implicitDefEqProofs only [go_sem]) ?_
   simp -implicitDefEqProofs only [go_sem]
   refine callF (H1) (by simp -implicitDefEqProofs only [go_sem]) ?_
   simp -implicitDefEqProofs only [go_sem]
   refine callF (H2) (by simp -implicitDefEqProofs only [go_sem]) ?_
   simp -implicitDefEqProofs only [go_sem]
   refine callF (H3) (by simp -implicitDefEqProofs only [go_sem]) ?_
   simp -implicitDefEqProofs only [go_sem]
   refine callF (H4) (by simp -implicitDefEqProofs only [go_sem, beq_self_eq_true, bne_self_eq_false, Bool.not_true]) ?_
   simp -implicitDefEqProofs only [go_sem, beq_self_eq_true, bne_self_eq_false, Bool.not_true]
   skip
  ·obtain ⟨h1, hn0, hn12, hmn, hcn⟩ := cmR_ok hok
   obtain ⟨j, rfl⟩ : ∃ j : Nat, n = j := ⟨n.toNat, by omega⟩
   have hj : j <= 12 := by omega
   rw [zux h1 hj hmn] at H1 H2
   have hpos := zrv (S := S) (n := j) hmn
   have hle := zwa S j
   have hp2 : 2 ^ j <= 4096 := Nat.le_trans (Nat.pow_le_pow_right (n := 2) (by omega) hj) (by decide)
   have hsuc : zes S (j + 1) = 2 * zes S j := zij fun c hc l hl => by have := zg4 hc hl; omega
   have H5 := zdl S ((j + 1 : Nat) : Int)
   have hat := fun h : j + 1 <= 12 => zux h1 h (show zb2 S <= ((j + 1 : Nat) : Int) by omega)
   have hw1 : IntKind.i64.wrap ((j : Int) + 1) = ((j + 1 : Nat) : Int) := za2 (by omega)
   rw [hsuc] at hat
   have hw2 : IntKind.i64.wrap (2 * (zes S j : Int)) = ((2 * zes S j : Nat) : Int) := by rw [zak (by omega) (by omega)]; omega
   unfold fmR at H3 H4
   rw [if_pos h1] at H3 H4
   cases hf : zm7 S with
   | none =>
    rw [hf] at H3 H4 hpos
    have H3 : FC Try.prog 18 [.one (za0 S)] [.one (zaz []), bD false, bD true] := H3
    have H4 : FC Try.prog 23 [.one (za0 S)] [.one (zaz []), bD false, bD true] := H4
    have hc0 : zes S j = 0 := by
     have : ¬ 0 < zes S j := fun h => by have := hpos.1 h; cases this
     omega
    rw [hc0] at H1 H2 hat
    have H1 : FC Try.prog 21 [.one (za0 S), iD j] [iD 0, bD true] := H1
    have H2 : FC Try.prog 22 [.one (za0 S), iD j] [iD 0, bD true] := H2
    have hw0 : IntKind.i64.wrap (2 * 0) = 0 := zak (by omega) (by omega)
    have hw00 : IntKind.i64.wrap 0 = 0 := zak (by omega) (by omega)
    have H6 := zcn S []
    have hpr : (puR S []).2 = true := by unfold puR; rw [h1]; rfl
    rw [hpr] at H6
    generalize (puR S []).1 = R at H6
    by_cases hlt : (j : Int) < 12
    ·rw [hat (by omega)] at H5
     have H5 : FC Try.prog 21 [.one (za0 S), iD ((j + 1 : Nat) : Int)] [iD 0, bD true] := H5
     refine zej Try.call5 Try.func5 rfl (by kernel_rfl) (zbf (by kernel_rfl)) ?_
     simp -implicitDefEqProofs only [go_sem, Try.results5]
     refine callF (HB) (by simp -implicitDefEqProofs only [go_sem]) ?_
     simp -implicitDefEqProofs only [go_sem]
     refine callF (HD) (by simp -implicitDefEqProofs only [go_sem]) ?_
     simp -implicitDefEqProofs only [go_sem]
     refine callF (H1) (by simp -implicitDefEqProofs only [go_sem]) ?_
     simp -implicitDefEqProofs only [go_sem]
     refine callF (H2) (by simp -implicitDefEqProofs only [go_sem]) ?_
     simp -implicitDefEqProofs only [go_sem]
     refine callF (H3) (by simp -implicitDefEqProofs only [go_sem]) ?_
     simp -implicitDefEqProofs only [go_sem]
     refine callF (H4) (by simp -implicitDefEqProofs only [go_sem, beq_self_eq_true, bne_self_eq_false, Bool.not_true, hlt]) ?_
     simp -implicitDefEqProofs only [go_sem, beq_self_eq_true, bne_self_eq_false, Bool.not_true, hlt]
     rw [hw1]
     refine callF (H5) (by simp -implicitDefEqProofs only [go_sem, hw0, hw00, bne_self_eq_false]) ?_
     simp -implicitDefEqProofs only [go_sem, hw0, hw00, bne_self_eq_false]
     refine callF (H6) (by simp -implicitDefEqProofs only [go_sem]) ?_
     simp -implicitDefEqProofs only [go_sem]
     skip
    ·refine zej Try.call5 Try.func5 rfl (by kernel_rfl) (zbf (by kernel_rfl)) ?_
     simp -implicitDefEqProofs only [go_sem, Try.results5]
     refine callF (HB) (by simp -implicitDefEqProofs only [go_sem]) ?_
     simp -implicitDefEqProofs only [go_sem]
     refine callF (HD) (by simp -implicitDefEqProofs only [go_sem]) ?_
     simp -implicitDefEqProofs only [go_sem]
     refine callF (H1) (by simp -implicitDefEqProofs only [go_sem]) ?_
     simp -implicitDefEqProofs only [go_sem]
     refine callF (H2) (by simp -implicitDefEqProofs only [go_sem]) ?_
     simp -implicitDefEqProofs only [go_sem]
     refine callF (H3) (by simp -implicitDefEqProofs only [go_sem]) ?_
     simp -implicitDefEqProofs only [go_sem]
     refine callF (H4) (by simp -implicitDefEqProofs only [go_sem, beq_self_eq_true, bne_self_eq_false, Bool.not_true, hlt]) ?_
     simp -implicitDefEqProofs only [go_sem, beq_self_eq_true, bne_self_eq_false, Bool.not_true, hlt]
     refine callF (H6) (by simp -implicitDefEqProofs only [go_sem]) ?_
     simp -implicitDefEqProofs only [go_sem]
     skip
   | some m =>
    rw [hf] at H3 H4 hpos
    have H3 : FC Try.prog 18 [.one (za0 S)] [.one (zaz m), bD true, bD true] := H3
    have H4 : FC Try.prog 23 [.one (za0 S)] [.one (zaz m), bD true, bD true] := H4
    have hc0 : 0 < zes S j := hpos.2 rfl
    obtain ⟨hm1, hm2⟩ := zpi hf
    have hmo := zkj fun c hc => zbe h1 hc
    have hpm := zwh (by have := zcf S; omega) hm2
    have H6 := zcn S m
    unfold puR at H6
    rw [h1, hpm, Bool.and_self, if_pos rfl, zki hm1] at H6
    have HVm := HV m
    have hc0' : ((0 : Int) < (zes S j : Int)) = True := by simpa using hc0
    generalize zes S j = k at H1 H2 hat hw2 hc0'
    by_cases hlt : (j : Int) < 12
    ·rw [hat (by omega)] at H5
     refine zej Try.call5 Try.func5 rfl (by kernel_rfl) (zbf (by kernel_rfl)) ?_
     simp -implicitDefEqProofs only [go_sem, Try.results5]
     refine callF (HB) (by simp -implicitDefEqProofs only [go_sem]) ?_
     simp -implicitDefEqProofs only [go_sem]
     refine callF (HD) (by simp -implicitDefEqProofs only [go_sem]) ?_
     simp -implicitDefEqProofs only [go_sem]
     refine callF (H1) (by simp -implicitDefEqProofs only [go_sem]) ?_
     simp -implicitDefEqProofs only [go_sem]
     refine callF (H2) (by simp -implicitDefEqProofs only [go_sem]) ?_
     simp -implicitDefEqProofs only [go_sem]
     refine callF (H3) (by simp -implicitDefEqProofs only [go_sem]) ?_
     simp -implicitDefEqProofs only [go_sem]
     refine callF (H4) (by simp -implicitDefEqProofs only [go_sem, beq_self_eq_true, bne_self_eq_false, Bool.not_true, hlt, hc0']) ?_
     simp -implicitDefEqProofs only [go_sem, beq_self_eq_true, bne_self_eq_false, Bool.not_true, hlt, hc0']
     rw [hw1]
     refine callF (H5) (by simp -implicitDefEqProofs only [go_sem]) ?_
     simp -implicitDefEqProofs only [go_sem]
     rw [hw2]
     simp -implicitDefEqProofs only [go_sem, beq_self_eq_true, bne_self_eq_false, Bool.not_true]
     refine callF (H6) (by simp -implicitDefEqProofs only [go_sem]) ?_
     simp -implicitDefEqProofs only [go_sem]
     refine callF (HVm) (by simp -implicitDefEqProofs only [go_sem]) ?_
     simp -implicitDefEqProofs only [go_sem]
     skip
    ·refine zej Try.call5 Try.func5 rfl (by kernel_rfl) (zbf (by kernel_rfl)) ?_
     simp -implicitDefEqProofs only [go_sem, Try.results5]
     refine callF (HB) (by simp -implicitDefEqProofs only [go_sem]) ?_
     simp -implicitDefEqProofs only [go_sem]
     refine callF (HD) (by simp -implicitDefEqProofs only [go_sem]) ?_
     simp -implicitDefEqProofs only [go_sem]
     refine callF (H1) (by simp -implicitDefEqProofs only [go_sem]) ?_
     simp -implicitDefEqProofs only [go_sem]
     refine callF (H2) (by simp -implicitDefEqProofs only [go_sem]) ?_
     simp -implicitDefEqProofs only [go_sem]
     refine callF (H3) (by simp -implicitDefEqProofs only [go_sem]) ?_
     simp -implicitDefEqProofs only [go_sem]
     refine callF (H4) (by simp -implicitDefEqProofs only [go_sem, beq_self_eq_true, bne_self_eq_false, Bool.not_true, hlt, hc0']) ?_
     simp -implicitDefEqProofs only [go_sem, beq_self_eq_true, bne_self_eq_false, Bool.not_true, hlt, hc0']
     refine callF (H6) (by simp -implicitDefEqProofs only [go_sem]) ?_
     simp -implicitDefEqProofs only [go_sem]
     refine callF (HVm) (by simp -implicitDefEqProofs only [go_sem]) ?_
     simp -implicitDefEqProofs only [go_sem]
     skip
end Go.Proofs.Yteeaofpphmhjdaa
