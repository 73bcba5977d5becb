/-
  The walk over plain data, and contracts of functions of the program and of its laws.
  Conditions: those that each theorem names.
-/
import Derived.Test.YteeaofpphmhjdaaQP5
namespace Go.Proofs.Yteeaofpphmhjdaa
set_option linter.unusedSimpArgs false
set_option linter.unusedVariables false
set_option linter.unusedSectionVars false
set_option maxRecDepth 4000
open Go.RowKit
def fmR (S : List (List Int)) : (List Int × Bool) × Bool := if zg7 S = true then ((match zvf S with | some m => (m, true) | none => ([], false)), true) else (([], false), false)
theorem zu0 {S : List (List Int)} {n k : Nat} (hn : zml S = n) (hk : k < 2 ^ n) (hno : ∀ j, j < k -> isM S (asg 1 n j) = false) (hy : isM S (asg 1 n k) = true) : zvf S = some (asg 1 n k) := by
 rw [zpn, hn, Int.toNat_natCast]
 rw [show (List.range (2 ^ n)).find? (fun k => isM S (asg 1 n k)) = some k from List.find?_range_eq_some.2 ⟨hy, by simpa using hk, fun j hj => by rw [hno j hj]; rfl⟩]
 rfl
theorem zvc {S : List (List Int)} {n : Nat} (hn : zml S = n) (hno : ∀ j, j < 2 ^ n -> isM S (asg 1 n j) = false) : zvf S = none := by
 rw [zpn, hn, Int.toNat_natCast]
 rw [show (List.range (2 ^ n)).find? (fun k => isM S (asg 1 n k)) = none from List.find?_range_eq_none.2 fun j hj => by rw [hno j hj]; rfl]
 rfl
set_option maxHeartbeats 1000000 in
theorem zh8 (S : List (List Int)) : FC Try.prog 18 [.one (zbi S)] [.one (zay (fmR S).1.1), bD (fmR S).1.2, bD (fmR S).2] := by
 have H1 := zcq S
 unfold fmR
 cases h1 : zg7 S
 ·rw [h1] at H1
  rw [if_neg (by simp)]
  refine za3 Try.call18 Try.func18 rfl (by kernel_rfl) (zbq (by kernel_rfl)) ?_
  simp -implicitDefEqProofs only [go_sem, Try.results18]
  refine callF (H1) (by simp -implicitDefEqProofs only [go_sem]) ?_
  simp -implicitDefEqProofs only [go_sem]
 ·rw [h1] at H1
  rw [if_pos rfl]
  have hm := zrx S
  have hm2 := zul fun c hc => zb3 h1 hc
  obtain ⟨n, hn⟩ : ∃ n : Nat, zml S = n := ⟨(zml S).toNat, by omega⟩
  have HG := zlt S fun c hc => zkb (zb3 h1 hc)
  rw [hn] at HG
  have hn12 : n <= 12 := by omega
  have hp : 2 ^ n <= 4096 := Nat.pow_le_pow_right (n := 2) (by omega) hn12
  refine za3 Try.call18 Try.func18 rfl (by kernel_rfl) (zbq (by kernel_rfl)) ?_
  simp -implicitDefEqProofs only [go_sem, Try.results18]
  refine callF (H1) (by simp -implicitDefEqProofs only [go_sem]) ?_
  simp -implicitDefEqProofs only [go_sem]
  refine callF (HG) (by simp -implicitDefEqProofs only [go_sem]) ?_
  simp -implicitDefEqProofs only [go_sem]
  have hs : IntKind.i64.wrap (1 * 2 ^ min n 64) = ((2 ^ n : Nat) : Int) := by
   rw [Nat.min_eq_left (by omega), Int.one_mul, show ((2 : Int) ^ n) = ((2 ^ n : Nat) : Int) by simp]
   generalize 2 ^ n = N at hp
   exact zat (by omega) (by omega)
  refine zan (fun k : Nat => hd [(0, vT (zbi S)), (5, vI n), (14, vI (2 ^ n : Nat)), (15, vI k)] [] []) (fun k => k <= 2 ^ n /\ ∀ j, j < k -> isM S (asg 1 n j) = false) (fun k => 2 ^ n - k) 0 (zaf ?_) ⟨Nat.zero_le _, fun j hj => absurd hj (by omega)⟩ ?_
  ·simp -implicitDefEqProofs only [go_sem]
   rw [hs]
  ·intro k ⟨hk, hno⟩
   by_cases hkl : k < 2 ^ n
   ·have HA := zfw k n hn12 (by omega)
    have HM := znv S (asg 1 n k)
    have hwk : IntKind.i64.wrap ((k : Int) + 1) = ((k + 1 : Nat) : Int) := za2 (by omega)
    have hkl' : ((k : Int) < ((2 ^ n : Nat) : Int)) = True := by simpa using (by omega : (k : Int) < ((2 ^ n : Nat) : Int))
    cases hy : isM S (asg 1 n k)
    ·rw [hy] at HM
     simp -implicitDefEqProofs only [go_sem, hkl']
     refine callF (HA) (by simp -implicitDefEqProofs only [go_sem]) ?_
     simp -implicitDefEqProofs only [go_sem]
     refine callF (HM) (by simp -implicitDefEqProofs only [go_sem]) ?_
     simp -implicitDefEqProofs only [go_sem]
     rw [hwk]
     exact ⟨k + 1, ⟨hkl, fun j hj => by rcases Nat.lt_succ_iff_lt_or_eq.1 hj with h | h; exact hno j h; rw [h]; exact hy⟩, by omega, zaf (by simp -implicitDefEqProofs only [go_sem])⟩
    ·rw [hy] at HM
     rw [zu0 hn hkl hno hy]
     simp -implicitDefEqProofs only [go_sem, hkl']
     refine callF (HA) (by simp -implicitDefEqProofs only [go_sem]) ?_
     simp -implicitDefEqProofs only [go_sem]
     refine callF (HM) (by simp -implicitDefEqProofs only [go_sem]) ?_
     simp -implicitDefEqProofs only [go_sem]
     skip
   ·have hkl' : ((k : Int) < ((2 ^ n : Nat) : Int)) = False := by simpa using (by omega : ¬ (k : Int) < ((2 ^ n : Nat) : Int))
    rw [zvc hn fun j hj => hno j (by omega)]
    simp -implicitDefEqProofs only [go_sem, hkl']
    skip
def pu2 (x : Cu × List Int) : List Int := if (x.1.pick 20).2 = 0 then [2, 1] else x.2
def pu1 (y : Cu × Int) : Cu × List Int := if y.2 = 0 then clD y.1 5 else (y.1, [])
def drPU (code : List UInt8) : List (List Int) × List Int := ((zse (q0 code)).2, pu2 (pu1 ((zse (q0 code)).1.pick 2)))
theorem zqy (code : List UInt8) : FC Try.prog 15 [.one (zmb code)] [.one (zbi (drPU code).1), .one (zay (drPU code).2)] := by
 have H := zq9 (q := q0 code) (code := code) rfl (by unfold q0; simp)
 have hg := zug (q0 code)
 have hpos := hg.pos
 have hcd := hg.code.trans (show (q0 code).code = code from rfl)
 have hlen := hg.len
 have h00 : (q0 code).pos = 0 := rfl
 have h01 : (q0 code).seed = 0 := rfl
 unfold drPU
 generalize zse (q0 code) = x at H hpos hcd hlen ⊢
 obtain ⟨Q, S⟩ := x
 simp only at H hpos hcd hlen ⊢
 have H2 := zjc hcd (by omega) 2 (by omega)
 have p2 := Q.pick_pos 2
 have c2 := (Q.pick_code 2).trans hcd
 generalize Q.pick 2 = y at H2 p2 c2 ⊢
 obtain ⟨Q2, z⟩ := y
 simp only at H2 p2 c2 ⊢
 rw [show zfx code (q0 code) = [[(false, zmb code), (false, .int .i64 0), (false, .int .u64 0)]] from rfl] at H
 unfold pu1
 simp only
 by_cases hz : z = 0
 ·subst hz
  rw [if_pos rfl]
  have HC := zbo c2 5 (by omega) (by omega) (by omega)
  obtain ⟨v1, v2, v3, v4⟩ := zd4 Q2 5
  generalize clD Q2 5 = C1 at HC v1 v2 v3 v4 ⊢
  obtain ⟨Q5, s1⟩ := C1
  simp only at HC v1 v2 v3 v4 ⊢
  have H3 := zjc (v3.trans c2) (by omega) 20 (by omega)
  unfold pu2
  simp only
  generalize Q5.pick 20 = v at H3 ⊢
  obtain ⟨Q3, u⟩ := v
  simp only at H3 ⊢
  by_cases hu : u = 0
  ·subst hu
   rw [if_pos rfl]
   refine zdc Try.call15 Try.func15 rfl (by kernel_rfl) (zbq (by kernel_rfl)) ?_
   simp -implicitDefEqProofs only [go_sem, Try.results15]
   refine zam [4] [10] [9] [] (H) (by decide) rfl (by simp -implicitDefEqProofs only [go_sem]) (by simp -implicitDefEqProofs only [go_sem]) (by simp -implicitDefEqProofs only [go_sem]) (by simp -implicitDefEqProofs only [go_sem]) ?_
   simp -implicitDefEqProofs only [go_sem]
   refine zas (by simp -implicitDefEqProofs only [go_sem]) ?_
   simp -implicitDefEqProofs only [go_sem]
   refine zam [4, 5, 6] [13] [9] [] (H2) (by decide) rfl (by simp -implicitDefEqProofs only [go_sem]) (by simp -implicitDefEqProofs only [go_sem]) (by simp -implicitDefEqProofs only [go_sem]) (by simp -implicitDefEqProofs only [go_sem]) ?_
   simp -implicitDefEqProofs only [go_sem]
   refine zam [4, 5] [15] [9] [] (HC) (by decide) rfl (by simp -implicitDefEqProofs only [go_sem]) (by simp -implicitDefEqProofs only [go_sem]) (by simp -implicitDefEqProofs only [go_sem]) (by simp -implicitDefEqProofs only [go_sem]) ?_
   simp -implicitDefEqProofs only [go_sem]
   refine zam [5, 6] [17] [9] [] (H3) (by decide) rfl (by simp -implicitDefEqProofs only [go_sem]) (by simp -implicitDefEqProofs only [go_sem]) (by simp -implicitDefEqProofs only [go_sem]) (by simp -implicitDefEqProofs only [go_sem]) ?_
   simp -implicitDefEqProofs only [go_sem]
   refine zas (by simp -implicitDefEqProofs only [go_sem]) ?_
   simp -implicitDefEqProofs only [go_sem]
   skip
  ·rw [if_neg hu]
   have hu' : (u == (0 : Int)) = false := by simpa using hu
   refine zdc Try.call15 Try.func15 rfl (by kernel_rfl) (zbq (by kernel_rfl)) ?_
   simp -implicitDefEqProofs only [go_sem, Try.results15]
   refine zam [4] [10] [9] [] (H) (by decide) rfl (by simp -implicitDefEqProofs only [go_sem]) (by simp -implicitDefEqProofs only [go_sem]) (by simp -implicitDefEqProofs only [go_sem]) (by simp -implicitDefEqProofs only [go_sem]) ?_
   simp -implicitDefEqProofs only [go_sem]
   refine zas (by simp -implicitDefEqProofs only [go_sem]) ?_
   simp -implicitDefEqProofs only [go_sem]
   refine zam [4, 5, 6] [13] [9] [] (H2) (by decide) rfl (by simp -implicitDefEqProofs only [go_sem]) (by simp -implicitDefEqProofs only [go_sem]) (by simp -implicitDefEqProofs only [go_sem]) (by simp -implicitDefEqProofs only [go_sem]) ?_
   simp -implicitDefEqProofs only [go_sem]
   refine zam [4, 5] [15] [9] [] (HC) (by decide) rfl (by simp -implicitDefEqProofs only [go_sem]) (by simp -implicitDefEqProofs only [go_sem]) (by simp -implicitDefEqProofs only [go_sem]) (by simp -implicitDefEqProofs only [go_sem]) ?_
   simp -implicitDefEqProofs only [go_sem]
   refine zam [5, 6] [17] [9] [] (H3) (by decide) rfl (by simp -implicitDefEqProofs only [go_sem, hu']) (by simp -implicitDefEqProofs only [go_sem, hu']) (by simp -implicitDefEqProofs only [go_sem, hu']) (by simp -implicitDefEqProofs only [go_sem, hu']) ?_
   simp -implicitDefEqProofs only [go_sem, hu']
   skip
 ·rw [if_neg hz]
  have hz' : (z == (0 : Int)) = false := by simpa using hz
  have H3 := zjc c2 (by omega) 20 (by omega)
  unfold pu2
  simp only
  generalize Q2.pick 20 = v at H3 ⊢
  obtain ⟨Q3, u⟩ := v
  simp only at H3 ⊢
  by_cases hu : u = 0
  ·subst hu
   rw [if_pos rfl]
   refine zdc Try.call15 Try.func15 rfl (by kernel_rfl) (zbq (by kernel_rfl)) ?_
   simp -implicitDefEqProofs only [go_sem, Try.results15]
   refine zam [4] [10] [9] [] (H) (by decide) rfl (by simp -implicitDefEqProofs only [go_sem]) (by simp -implicitDefEqProofs only [go_sem]) (by simp -implicitDefEqProofs only [go_sem]) (by simp -implicitDefEqProofs only [go_sem]) ?_
   simp -implicitDefEqProofs only [go_sem]
   refine zas (by simp -implicitDefEqProofs only [go_sem]) ?_
   simp -implicitDefEqProofs only [go_sem]
   refine zam [4, 5, 6] [13] [9] [] (H2) (by decide) rfl (by simp -implicitDefEqProofs only [go_sem, hz']) (by simp -implicitDefEqProofs only [go_sem, hz']) (by simp -implicitDefEqProofs only [go_sem, hz']) (by simp -implicitDefEqProofs only [go_sem, hz']) ?_
   simp -implicitDefEqProofs only [go_sem, hz']
   refine zam [5, 6] [17] [9] [] (H3) (by decide) rfl (by simp -implicitDefEqProofs only [go_sem]) (by simp -implicitDefEqProofs only [go_sem]) (by simp -implicitDefEqProofs only [go_sem]) (by simp -implicitDefEqProofs only [go_sem]) ?_
   simp -implicitDefEqProofs only [go_sem]
   refine zas (by simp -implicitDefEqProofs only [go_sem]) ?_
   simp -implicitDefEqProofs only [go_sem]
   skip
  ·rw [if_neg hu]
   have hu' : (u == (0 : Int)) = false := by simpa using hu
   refine zdc Try.call15 Try.func15 rfl (by kernel_rfl) (zbq (by kernel_rfl)) ?_
   simp -implicitDefEqProofs only [go_sem, Try.results15]
   refine zam [4] [10] [9] [] (H) (by decide) rfl (by simp -implicitDefEqProofs only [go_sem]) (by simp -implicitDefEqProofs only [go_sem]) (by simp -implicitDefEqProofs only [go_sem]) (by simp -implicitDefEqProofs only [go_sem]) ?_
   simp -implicitDefEqProofs only [go_sem]
   refine zas (by simp -implicitDefEqProofs only [go_sem]) ?_
   simp -implicitDefEqProofs only [go_sem]
   refine zam [4, 5, 6] [13] [9] [] (H2) (by decide) rfl (by simp -implicitDefEqProofs only [go_sem, hz']) (by simp -implicitDefEqProofs only [go_sem, hz']) (by simp -implicitDefEqProofs only [go_sem, hz']) (by simp -implicitDefEqProofs only [go_sem, hz']) ?_
   simp -implicitDefEqProofs only [go_sem, hz']
   refine zam [5, 6] [17] [9] [] (H3) (by decide) rfl (by simp -implicitDefEqProofs only [go_sem, hu']) (by simp -implicitDefEqProofs only [go_sem, hu']) (by simp -implicitDefEqProofs only [go_sem, hu']) (by simp -implicitDefEqProofs only [go_sem, hu']) ?_
   simp -implicitDefEqProofs only [go_sem, hu']
   skip
end Go.Proofs.Yteeaofpphmhjdaa
namespace Go.Proofs.Yteeaofpphmhjdaa
set_option linter.unusedSimpArgs false
set_option linter.unusedVariables false
set_option linter.unusedSectionVars false
set_option maxRecDepth 4000
open Go.RowKit
theorem zf0 {S : List (List Int)} : ∀ (n : Nat) (a : List Int), ∀ l ∈ (zcg n S a).1, l ∈ a \/ ∃ c ∈ S, l ∈ c
 | 0, a, l, h => Or.inl h
 | n + 1, a, l, h => by
  unfold zcg at h
  cases hu : zcp S a with
  | none => rw [hu] at h; exact Or.inl h
  | some i =>
   rw [hu] at h
   obtain ⟨hi, _, _⟩ := zcf hu
   have hg : S.getD i [] = S[i] := by rw [List.getD_eq_getElem?_getD, List.getElem?_eq_getElem hi]; rfl
   dsimp only at h
   rw [hg] at h
   cases ho : opn a S[i] with
   | nil => rw [ho] at h; exact Or.inl h
   | cons x xs =>
    rw [ho] at h
    rcases zf0 n _ l h with h | h
    ·rcases zew.1 h with rfl | h
     ·exact Or.inr ⟨S[i], List.getElem_mem hi, (zdf.1 (show l ∈ opn a S[i] by rw [ho]; simp)).1⟩
     ·exact Or.inl h
    ·exact Or.inr h
set_option maxHeartbeats 2000000 in
theorem zes (code : List UInt8) : FC Try.prog 4 [.one (zmb code)] [bD true] := by
 have HB := vBig_c code
 have HD := zqy code
 by_cases hbig : (65536 : Int) < code.length
 ·rw [show decide ((65536 : Int) < code.length) = true by simpa using hbig] at HB
  refine za3 Try.call4 Try.func4 rfl (by kernel_rfl) (zbq (by kernel_rfl)) ?_
  simp -implicitDefEqProofs only [go_sem, Try.results4]
  refine callF (HB) (by simp -implicitDefEqProofs only [go_sem]) ?_
  simp -implicitDefEqProofs only [go_sem]
 ·rw [show decide ((65536 : Int) < code.length) = false by simpa using hbig] at HB
  generalize drPU code = x at HD
  obtain ⟨S, a⟩ := x
  simp only at HD
  have H1 := zev S a
  have H2 := zqw S a
  have H3 := zh8 S
  have HV := fun L : List Int => zui L L
  simp only [zib] at HV
  unfold puR at H1 H2
  cases hok : (zg7 S && pcl a)
  ·rw [hok, if_neg (by simp)] at H1 H2
   refine zdc Try.call4 Try.func4 rfl (by kernel_rfl) (zbq (by kernel_rfl)) ?_
   simp -implicitDefEqProofs only [go_sem, Try.results4]
   refine callF (HB) (by simp -implicitDefEqProofs only [go_sem]) ?_
   simp -implicitDefEqProofs only [go_sem]
   refine callF (HD) (by simp -implicitDefEqProofs only [go_sem]) ?_
   simp -implicitDefEqProofs only [go_sem]
   refine callF (H1) (by simp -implicitDefEqProofs only [go_sem]) ?_
   simp -implicitDefEqProofs only [go_sem]
   refine callF (H2) (by simp -implicitDefEqProofs only [go_sem, beq_self_eq_true, bne_self_eq_false, Bool.not_true]) ?_
   simp -implicitDefEqProofs only [go_sem, beq_self_eq_true, bne_self_eq_false, Bool.not_true]
   refine callF (HV []) (by simp -implicitDefEqProofs only [go_sem, beq_self_eq_true]) ?_
   simp -implicitDefEqProofs only [go_sem, beq_self_eq_true]
   refine callF (HV []) (by simp -implicitDefEqProofs only [go_sem]) ?_
   simp -implicitDefEqProofs only [go_sem]
  ·rw [hok, if_pos rfl] at H1 H2
   rw [Bool.and_eq_true] at hok
   unfold fmR at H3
   rw [if_pos hok.1] at H3
   have hfrom := zf0 (S := S) (13 - a.length) a
   have hext := fun m (h : isM S m = true) (hc : Cons m) => zhy h hc (13 - a.length) a
   generalize zcg (13 - a.length) S a = R at H1 H2 hfrom hext
   have hRb : ∀ l ∈ R.1, -9223372036854775807 <= l /\ l <= 9223372036854775807 := fun l hl => by
    rcases hfrom l hl with h | ⟨c, hc, h⟩
    ·exact zfd hok.2 l h
    ·exact zfd (zb3 hok.1 hc) l h
   obtain ⟨out, i⟩ := R
   simp only at H1 H2 hRb hext
   cases hf : zvf S with
   | none =>
    rw [hf] at H3
    have H3 : FC Try.prog 18 [.one (zbi S)] [.one (zay []), bD false, bD true] := H3
    refine zdc Try.call4 Try.func4 rfl (by kernel_rfl) (zbq (by kernel_rfl)) ?_
    simp -implicitDefEqProofs only [go_sem, Try.results4]
    refine callF (HB) (by simp -implicitDefEqProofs only [go_sem]) ?_
    simp -implicitDefEqProofs only [go_sem]
    refine callF (HD) (by simp -implicitDefEqProofs only [go_sem]) ?_
    simp -implicitDefEqProofs only [go_sem]
    refine callF (H1) (by simp -implicitDefEqProofs only [go_sem]) ?_
    simp -implicitDefEqProofs only [go_sem]
    refine callF (H2) (by simp -implicitDefEqProofs only [go_sem, beq_self_eq_true, bne_self_eq_false, Bool.not_true]) ?_
    simp -implicitDefEqProofs only [go_sem, beq_self_eq_true, bne_self_eq_false, Bool.not_true]
    refine callF (HV out) (by simp -implicitDefEqProofs only [go_sem]) ?_
    simp -implicitDefEqProofs only [go_sem]
    refine callF (H3) (by simp -implicitDefEqProofs only [go_sem]) ?_
    simp -implicitDefEqProofs only [go_sem]
   | some m =>
    rw [hf] at H3
    have H3 : FC Try.prog 18 [.one (zbi S)] [.one (zay m), bD true, bD true] := H3
    obtain ⟨hm1, hm2⟩ := zp0 hf
    have he := hext m hm1 (zrk hm2)
    have HE := zf1 m a (zfd hok.2)
    have HE2 := zf1 m out hRb
    cases hea : zmm m a
    ·rw [hea] at HE
     refine zdc Try.call4 Try.func4 rfl (by kernel_rfl) (zbq (by kernel_rfl)) ?_
     simp -implicitDefEqProofs only [go_sem, Try.results4]
     refine callF (HB) (by simp -implicitDefEqProofs only [go_sem]) ?_
     simp -implicitDefEqProofs only [go_sem]
     refine callF (HD) (by simp -implicitDefEqProofs only [go_sem]) ?_
     simp -implicitDefEqProofs only [go_sem]
     refine callF (H1) (by simp -implicitDefEqProofs only [go_sem]) ?_
     simp -implicitDefEqProofs only [go_sem]
     refine callF (H2) (by simp -implicitDefEqProofs only [go_sem, beq_self_eq_true, bne_self_eq_false, Bool.not_true]) ?_
     simp -implicitDefEqProofs only [go_sem, beq_self_eq_true, bne_self_eq_false, Bool.not_true]
     refine callF (HV out) (by simp -implicitDefEqProofs only [go_sem]) ?_
     simp -implicitDefEqProofs only [go_sem]
     refine callF (H3) (by simp -implicitDefEqProofs only [go_sem]) ?_
     simp -implicitDefEqProofs only [go_sem]
     refine callF (HE) (by simp -implicitDefEqProofs only [go_sem]) ?_
     simp -implicitDefEqProofs only [go_sem]
    ·rw [hea] at HE
     obtain ⟨he1, he2⟩ := he hea
     rw [he1] at HE2
     refine zdc Try.call4 Try.func4 rfl (by kernel_rfl) (zbq (by kernel_rfl)) ?_
     simp -implicitDefEqProofs only [go_sem, Try.results4]
     refine callF (HB) (by simp -implicitDefEqProofs only [go_sem]) ?_
     simp -implicitDefEqProofs only [go_sem]
     refine callF (HD) (by simp -implicitDefEqProofs only [go_sem]) ?_
     simp -implicitDefEqProofs only [go_sem]
     refine callF (H1) (by simp -implicitDefEqProofs only [go_sem]) ?_
     simp -implicitDefEqProofs only [go_sem]
     refine callF (H2) (by simp -implicitDefEqProofs only [go_sem, beq_self_eq_true, bne_self_eq_false, Bool.not_true]) ?_
     simp -implicitDefEqProofs only [go_sem, beq_self_eq_true, bne_self_eq_false, Bool.not_true]
     refine callF (HV out) (by simp -implicitDefEqProofs only [go_sem]) ?_
     simp -implicitDefEqProofs only [go_sem]
     refine callF (H3) (by simp -implicitDefEqProofs only [go_sem]) ?_
     simp -implicitDefEqProofs only [go_sem]
     refine callF (HE) (by simp -implicitDefEqProofs only [go_sem]) ?_
     simp -implicitDefEqProofs only [go_sem]
     refine callF (HE2) (by simp -implicitDefEqProofs only [go_sem]) ?_
     simp -implicitDefEqProofs only [go_sem]
     exact Or.inl (by rw [he2]; rfl)
end Go.Proofs.Yteeaofpphmhjdaa
