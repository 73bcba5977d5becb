/-
  Contracts of functions of the program and of its laws: lawColors.
  Conditions: those that each theorem names.
-/
import Derived.Test.YtggialagjkhdfaaW12
import Derived.Test.YtggialagjkhdfaaSpan
namespace Go.Proofs.Ytggialagjkhdfaa
open Go.RowKit

theorem szGo_le : ∀ (xs : List (List Int)) (left : Int), 0 ≤ szGo left xs → 0 ≤ left → (tally xs : Int) ≤ left ∧ ∀ x ∈ xs, (x.length : Int) ≤ left
  | [], left, _, h => ⟨by simpa [tally] using h, by simp⟩
  | x :: xs, left, h, h0 => by
    rw [szGo] at h
    split at h
    · omega
    · obtain ⟨h1, h2⟩ := szGo_le xs _ h (by omega)
      refine ⟨by rw [tally]; omega, fun y hy => ?_⟩
      rcases List.mem_cons.1 hy with rfl | hy
      · omega
      · have := h2 y hy; omega
theorem szRows_le {set : List (List Int)} {left : Int} (h : 0 ≤ szRows left set) : (set.length : Int) ≤ left ∧ (tally set : Int) ≤ left ∧ ∀ x ∈ set, (x.length : Int) ≤ left := by
  unfold szRows at h
  split at h
  · omega
  · obtain ⟨h1, h2⟩ := szGo_le set _ h (by omega)
    exact ⟨by omega, by omega, fun x hx => by have := h2 x hx; omega⟩

theorem heldI_up (k : Int) (n : Nat) : heldI (upFrom k n) k = k + n := by
  unfold heldI
  rw [upFrom_len, if_pos rfl]

theorem colorsOut_len (set : List (List Int)) (split : Int) : (colorsOut set split).length ≤ 12 := by
  unfold colorsOut
  split
  · rename_i h
    unfold colorsOk at h
    rw [Bool.and_eq_true] at h
    exact colorList_len h.1 _
  · simp

theorem specColors_out (v : Value) (set : List (List Int)) (split : Int) (w : World) (h1 : Rows2 w v set) :
    Calls Try.prog 13 #[v, .int .i64 split] w fun e w' => ∃ u, e = .returned (.tuple #[u, .bool (colorsOk set split)]) ∧
      Fresh w.heap.size w' (ints (colorsOut set split)) [u] ∧ Below w.heap.size w w' := by
  refine (specColors_any v set split w h1).mono ?_
  rintro e w' ⟨u, xs, ok, rfl, h2, h3, h4, h5⟩
  have : ok = colorsOk set split := h4
  subst this
  subst h5
  exact ⟨u, rfl, h2, h3⟩

theorem markIntS_span (v : Value) (xs : List Int) (lo hi : Nat) (k : Int) (w : World) (h1 : Span lo hi w (ints xs) [v]) (hk : 0 ≤ k) (hk2 : k + xs.length ≤ 1099511627776) :
    Calls Try.prog 19 #[v, .int .i64 k] w fun e w' => e = .returned (.int .i64 (k + xs.length)) ∧ Span lo hi w' (ints (upFrom k xs.length)) [v] ∧ WritesIn lo hi w w' := by
  obtain ⟨fp, g1, g2, g3⟩ := h1
  refine (markIntS_any v xs fp k w g1 hk hk2).mono ?_
  rintro e w' ⟨rfl, h2, h3⟩
  exact ⟨rfl, ⟨fp, h2, g2, g3⟩, h3.within g3⟩
theorem markIntSS_span (v : Value) (xs : List (List Int)) (lo hi : Nat) (k : Int) (w : World) (h1 : Span lo hi w (rows xs) [v]) (hk : 0 ≤ k) (hk2 : k + tally xs ≤ 1099511627776) :
    Calls Try.prog 18 #[v, .int .i64 k] w fun e w' => e = .returned (.int .i64 (k + tally xs)) ∧ WritesIn lo hi w w' := by
  obtain ⟨fp, g1, g2, g3⟩ := h1
  refine (markIntSS_any v xs fp k w g1 g2 hk hk2).mono ?_
  rintro e w' ⟨rfl, h3⟩
  exact ⟨rfl, h3.within g3⟩

set_option maxRecDepth 100000 in
set_option maxHeartbeats 1600000 in
theorem lawColors_any (v : Value) (set : List (List Int)) (split : Int) (w : World) (h1 : Rows2 w v set) :
    Calls Try.prog 3 #[v, .int .i64 split] w fun e w' => e = .returned (.bool true) ∧ Below w.heap.size w w' := by
  have HA := hid fun wx (hb : Below w.heap.size w wx) => h1.keep (Keeps.of_below hb)
  have HZ := hid (szIntSS_any v set 1048576 w h1 (by omega) (by omega))
  clear h1
  go_enter Try.func3, Try.ntmps3
  go_wp2_with fail
  refine HZ.out.mono ?_
  rintro e w1 ⟨rfl, q1⟩
  have B1 := q1.below w.heap.size
  clear q1 HZ
  by_cases hneg : szRows 1048576 set < 0
  · go_wp2_with fail
    go_ret
    exact ⟨rfl, B1⟩
  · have hge : 0 ≤ szRows 1048576 set := by omega
    have HS := hid (szRows_le hge)
    have HB1 := hid B1
    clear hge B1
    go_wp2_with fail
    refine (toIntSS_any v set w1 (HA.out w1 HB1.out) (by have := HS.out; omega) (fun x hx => by have := HS.out.2.2 x hx; omega)).mono ?_
    rintro e w2 ⟨u1, rfl, hU1, hb⟩
    have HB2 := hid (HB1.out.trans (hb.mono HB1.out.size))
    have U1 := hid hU1.span
    have LU1 := hid (Nat.le_refl w2.heap.size)
    clear hb hU1
    go_wp2_with fail
    refine (specColors_out u1 set split w2 U1.out.rep).mono ?_
    rintro e w3 ⟨s0, rfl, hS0, hb⟩
    have AU1S0 := LU1
    have HB3 := hid (HB2.out.trans (hb.mono HB2.out.size))
    have U1 := hid (U1.out.below hb LU1.out)
    have LU1 := hid (Nat.le_trans LU1.out hb.size)
    have S0 := hid hS0.span
    have LS0 := hid (Nat.le_refl w3.heap.size)
    clear hb hS0
    clear U1
    have BX0 := hid HB3.out.size
    go_wp2_with fail
    refine (toIntSS_any v set w3 (HA.out w3 HB3.out) (by have := HS.out; omega) (fun x hx => by have := HS.out.2.2 x hx; omega)).mono ?_
    rintro e w4 ⟨x0, rfl, hX0, hb⟩
    have AS0X0 := LS0
    have HB4 := hid (HB3.out.trans (hb.mono HB3.out.size))
    have S0 := hid (S0.out.below hb LS0.out)
    have LS0 := hid (Nat.le_trans LS0.out hb.size)
    have X0 := hid hX0.span
    have LX0 := hid (Nat.le_refl w4.heap.size)
    clear hb hX0
    have BG0 := hid HB4.out.size
    go_wp2_with fail
    refine (implColors_any x0 set split w4 X0.out.rep).mono ?_
    rintro e w5 ⟨g0, rfl, hG0, hb⟩
    have AS0G0 := LS0
    have AX0G0 := LX0
    have HB5 := hid (HB4.out.trans (hb.mono HB4.out.size))
    have S0 := hid (S0.out.below hb LS0.out)
    have LS0 := hid (Nat.le_trans LS0.out hb.size)
    have X0 := hid (X0.out.below hb LX0.out)
    have LX0 := hid (Nat.le_trans LX0.out hb.size)
    have G0 := hid hG0.span
    have LG0 := hid (Nat.le_refl w5.heap.size)
    clear hb hG0
    go_wp2_with fail
    refine (eqIntS_any g0 s0 (colorsOut set split) (colorsOut set split) w5 G0.out.rep S0.out.rep).mono ?_
    rintro e w6 ⟨rfl, hq⟩
    rw [beq_self_eq_true]
    have hb := hq.below w5.heap.size
    have HB6 := hid (HB5.out.trans (hb.mono HB5.out.size))
    have S0 := hid (S0.out.below hb LS0.out)
    have LS0 := hid (Nat.le_trans LS0.out hb.size)
    have X0 := hid (X0.out.below hb LX0.out)
    have LX0 := hid (Nat.le_trans LX0.out hb.size)
    have G0 := hid (G0.out.below hb LG0.out)
    have LG0 := hid (Nat.le_trans LG0.out hb.size)
    clear hq hb
    go_wp2_with fail
    refine (toIntSS_any v set w6 (HA.out w6 HB6.out) (by have := HS.out; omega) (fun x hx => by have := HS.out.2.2 x hx; omega)).mono ?_
    rintro e w7 ⟨y0, rfl, hY0, hb⟩
    have AS0Y0 := LS0
    have AX0Y0 := LX0
    have AG0Y0 := LG0
    have HB7 := hid (HB6.out.trans (hb.mono HB6.out.size))
    have S0 := hid (S0.out.below hb LS0.out)
    have LS0 := hid (Nat.le_trans LS0.out hb.size)
    have X0 := hid (X0.out.below hb LX0.out)
    have LX0 := hid (Nat.le_trans LX0.out hb.size)
    have G0 := hid (G0.out.below hb LG0.out)
    have LG0 := hid (Nat.le_trans LG0.out hb.size)
    have Y0 := hid hY0.span
    have LY0 := hid (Nat.le_refl w7.heap.size)
    clear hb hY0
    go_wp2_with fail
    refine (eqIntSS_any x0 y0 set set w7 X0.out.rep Y0.out.rep).mono ?_
    rintro e w8 ⟨rfl, hq⟩
    rw [beq_self_eq_true]
    have hb := hq.below w7.heap.size
    have HB8 := hid (HB7.out.trans (hb.mono HB7.out.size))
    have S0 := hid (S0.out.below hb LS0.out)
    have LS0 := hid (Nat.le_trans LS0.out hb.size)
    have X0 := hid (X0.out.below hb LX0.out)
    have LX0 := hid (Nat.le_trans LX0.out hb.size)
    have G0 := hid (G0.out.below hb LG0.out)
    have LG0 := hid (Nat.le_trans LG0.out hb.size)
    have Y0 := hid (Y0.out.below hb LY0.out)
    have LY0 := hid (Nat.le_trans LY0.out hb.size)
    clear hq hb
    clear Y0
    go_wp2_with fail
    refine (markIntSS_span x0 set _ _ 1 w8 X0.out (by omega) (by have := HS.out; omega)).mono ?_
    rintro e w9 ⟨rfl, hw⟩
    have HB9 := hid (HB8.out.trans (hw.below (show w.heap.size ≤ _ from BX0.out)))
    have S0 := hid (S0.out.apart hw (Or.inl AS0X0.out))
    have LS0 := hid (Nat.le_trans LS0.out (Nat.le_of_eq hw.size.symm))
    have G0 := hid (G0.out.apart hw (Or.inr AX0G0.out))
    have LG0 := hid (Nat.le_trans LG0.out (Nat.le_of_eq hw.size.symm))
    clear hw X0
    have hk : ¬ ((1 : Int) + tally set < 0) := by omega
    go_wp2_with fail
    refine (eqIntS_any g0 s0 (colorsOut set split) (colorsOut set split) w9 G0.out.rep S0.out.rep).mono ?_
    rintro e w10 ⟨rfl, hq⟩
    rw [beq_self_eq_true]
    have hb := hq.below w9.heap.size
    have HB10 := hid (HB9.out.trans (hb.mono HB9.out.size))
    have S0 := hid (S0.out.below hb LS0.out)
    have LS0 := hid (Nat.le_trans LS0.out hb.size)
    have G0 := hid (G0.out.below hb LG0.out)
    have LG0 := hid (Nat.le_trans LG0.out hb.size)
    clear hq hb
    have hlen : (colorsOut set split).length ≤ 12 := colorsOut_len set split
    go_wp2_with fail
    refine (markIntS_span g0 (colorsOut set split) _ _ 1 w10 G0.out (by omega) (by omega)).mono ?_
    rintro e w11 ⟨rfl, hx, hw⟩
    have HB11 := hid (HB10.out.trans (hw.below (show w.heap.size ≤ _ from BG0.out)))
    have S0 := hid (S0.out.apart hw (Or.inl AS0G0.out))
    have LS0 := hid (Nat.le_trans LS0.out (Nat.le_of_eq hw.size.symm))
    have LG0 := hid (Nat.le_trans LG0.out (Nat.le_of_eq hw.size.symm))
    have G0 := hid hx
    clear hw hx
    go_wp2_with fail
    refine (heldIntS_any g0 (upFrom 1 (colorsOut set split).length) 1 w11 G0.out.rep (by omega) (by rw [upFrom_len]; omega)).mono ?_
    rintro e w12 ⟨rfl, hq⟩
    rw [heldI_up]
    have hb := hq.below w11.heap.size
    have HB12 := hid (HB11.out.trans (hb.mono HB11.out.size))
    have S0 := hid (S0.out.below hb LS0.out)
    have LS0 := hid (Nat.le_trans LS0.out hb.size)
    have G0 := hid (G0.out.below hb LG0.out)
    have LG0 := hid (Nat.le_trans LG0.out hb.size)
    clear hq hb
    go_wp2_with fail
    refine (toIntSS_any v set w12 (HA.out w12 HB12.out) (by have := HS.out; omega) (fun x hx => by have := HS.out.2.2 x hx; omega)).mono ?_
    rintro e w13 ⟨x1, rfl, hX1, hb⟩
    have AS0X1 := LS0
    have AG0X1 := LG0
    have HB13 := hid (HB12.out.trans (hb.mono HB12.out.size))
    have S0 := hid (S0.out.below hb LS0.out)
    have LS0 := hid (Nat.le_trans LS0.out hb.size)
    have G0 := hid (G0.out.below hb LG0.out)
    have LG0 := hid (Nat.le_trans LG0.out hb.size)
    have X1 := hid hX1.span
    have LX1 := hid (Nat.le_refl w13.heap.size)
    clear hb hX1
    go_wp2_with fail
    refine (implColors_any x1 set split w13 X1.out.rep).mono ?_
    rintro e w14 ⟨h0, rfl, hH0, hb⟩
    have AS0H0 := LS0
    have AG0H0 := LG0
    have AX1H0 := LX1
    have HB14 := hid (HB13.out.trans (hb.mono HB13.out.size))
    have S0 := hid (S0.out.below hb LS0.out)
    have LS0 := hid (Nat.le_trans LS0.out hb.size)
    have G0 := hid (G0.out.below hb LG0.out)
    have LG0 := hid (Nat.le_trans LG0.out hb.size)
    have X1 := hid (X1.out.below hb LX1.out)
    have LX1 := hid (Nat.le_trans LX1.out hb.size)
    have H0 := hid hH0.span
    have LH0 := hid (Nat.le_refl w14.heap.size)
    clear hb hH0
    go_wp2_with fail
    refine (eqIntS_any h0 s0 (colorsOut set split) (colorsOut set split) w14 H0.out.rep S0.out.rep).mono ?_
    rintro e w15 ⟨rfl, hq⟩
    rw [beq_self_eq_true]
    have hb := hq.below w14.heap.size
    have HB15 := hid (HB14.out.trans (hb.mono HB14.out.size))
    have S0 := hid (S0.out.below hb LS0.out)
    have LS0 := hid (Nat.le_trans LS0.out hb.size)
    have G0 := hid (G0.out.below hb LG0.out)
    have LG0 := hid (Nat.le_trans LG0.out hb.size)
    have X1 := hid (X1.out.below hb LX1.out)
    have LX1 := hid (Nat.le_trans LX1.out hb.size)
    have H0 := hid (H0.out.below hb LH0.out)
    have LH0 := hid (Nat.le_trans LH0.out hb.size)
    clear hq hb
    go_wp2_with fail
    refine (heldIntS_any g0 (upFrom 1 (colorsOut set split).length) 1 w15 G0.out.rep (by omega) (by rw [upFrom_len]; omega)).mono ?_
    rintro e w16 ⟨rfl, hq⟩
    rw [heldI_up]
    have hb := hq.below w15.heap.size
    have HB16 := hid (HB15.out.trans (hb.mono HB15.out.size))
    have S0 := hid (S0.out.below hb LS0.out)
    have LS0 := hid (Nat.le_trans LS0.out hb.size)
    have G0 := hid (G0.out.below hb LG0.out)
    have LG0 := hid (Nat.le_trans LG0.out hb.size)
    have X1 := hid (X1.out.below hb LX1.out)
    have LX1 := hid (Nat.le_trans LX1.out hb.size)
    have H0 := hid (H0.out.below hb LH0.out)
    have LH0 := hid (Nat.le_trans LH0.out hb.size)
    clear hq hb
    go_wp2_with fail
    go_ret
    exact ⟨rfl, HB16.out⟩
end Go.Proofs.Ytggialagjkhdfaa
