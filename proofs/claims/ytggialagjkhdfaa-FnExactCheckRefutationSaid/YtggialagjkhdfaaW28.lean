/-
  The exact law of CheckRefutation, walked.
  Conditions: those that each theorem names.
-/
import Derived.Test.YtggialagjkhdfaaW27
import Derived.Test.YtggialagjkhdfaaW15
namespace Go.Proofs.Ytggialagjkhdfaa
open Go.RowKit

theorem szGo_top : ∀ (xs : List (List Int)) (left : Int), 0 ≤ left → szGo left xs ≤ left
  | [], left, _ => by rw [szGo]; omega
  | x :: xs, left, h => by
    rw [szGo]
    split
    · omega
    · have := szGo_top xs (left - x.length) (by omega); omega
theorem szRows_top {xs : List (List Int)} {left : Int} (h : 0 ≤ left) : szRows left xs ≤ left := by
  unfold szRows
  split
  · omega
  · have := szGo_top xs (left - xs.length) (by omega); omega
theorem szSteps_le {ss : List PStep} {left : Int} (h : 0 ≤ szSteps left ss) : (ss.length : Int) ≤ left ∧ (tally (ss.map (·.clause)) : Int) ≤ left ∧ ∀ s ∈ ss, (s.clause.length : Int) ≤ left := by
  unfold szSteps at h
  obtain ⟨h1, h2, h3⟩ := szRows_le h
  rw [List.length_map] at h1
  exact ⟨h1, h2, fun s hs => h3 s.clause (List.mem_map_of_mem hs)⟩

set_option maxRecDepth 100000 in
set_option maxHeartbeats 1600000 in
theorem lawCheck_any (v tv : Value) (set : List (List Int)) (ss : List PStep) (w : World) (h1 : Rows2 w v set) (h2 : Steps w tv ss) :
    Calls Try.prog 7 #[v, tv] w fun e w' => e = .returned (.bool true) ∧ Below w.heap.size w w' := by
  have HA := hid fun wx (hb : Below w.heap.size w wx) => h1.keep (Keeps.of_below hb)
  have HT := hid fun wx (hb : Below w.heap.size w wx) => h2.keep (Keeps.of_below hb)
  have HZ := hid (szIntSS_any v set 1048576 w h1 (by omega) (by omega))
  have htop := szRows_top (xs := set) (left := 1048576) (by omega)
  clear h1 h2
  go_enter Try.func7, Try.ntmps7
  go_wp2_with fail
  refine HZ.out.mono ?_
  rintro e w1 ⟨rfl, q1⟩
  have HB1 := hid (q1.below w.heap.size)
  clear q1 HZ
  by_cases hneg : szRows 1048576 set < 0
  · go_wp2_with fail
    go_ret
    exact ⟨rfl, HB1.out⟩
  · have hge : 0 ≤ szRows 1048576 set := by omega
    have HS := hid (szRows_le hge)
    go_wp2_with fail
    refine (szPropStepS_any tv ss (szRows 1048576 set) w1 (HT.out _ HB1.out) hge htop).mono ?_
    rintro e w2 ⟨rfl, hb⟩
    have HB2 := hid (HB1.out.trans (hb.mono HB1.out.size))
    clear hb
    by_cases hneg2 : szSteps (szRows 1048576 set) ss < 0
    · go_wp2_with fail
      go_ret
      exact ⟨rfl, HB2.out⟩
    have hge2 : 0 ≤ szSteps (szRows 1048576 set) ss := by omega
    have HSS := hid (szSteps_le hge2)
    have htop := hid htop
    clear hge hge2
    go_wp2_with fail
    refine (toIntSS_any v set w2 (HA.out w2 HB2.out) (by have := HS.out; omega) (fun x hx => by have := HS.out.2.2 x hx; omega)).mono ?_
    rintro e w3 ⟨u1, rfl, hU1, hb⟩
    have HB3 := hid (HB2.out.trans (hb.mono HB2.out.size))
    have U1 := hid hU1.span
    have LU1 := hid (Nat.le_refl w3.heap.size)
    clear hb hU1
    go_wp2_with fail
    refine (toPropStepS_any tv ss w3 (HT.out w3 HB3.out) (by have := HSS.out; have := htop.out; omega) (fun x hx => by have := HSS.out.2.2 x hx; have := htop.out; omega)).mono ?_
    rintro e w4 ⟨u2, rfl, hU2, hb⟩
    have AU1U2 := LU1
    have HB4 := hid (HB3.out.trans (hb.mono HB3.out.size))
    have U1 := hid (U1.out.below hb LU1.out)
    have LU1 := hid (Nat.le_trans LU1.out hb.size)
    have U2 := hid hU2.span
    have LU2 := hid (Nat.le_refl w4.heap.size)
    clear hb hU2
    go_wp2_with fail
    refine (specCheck_any u1 u2 set ss w4 U1.out.rep U2.out.rep).mono ?_
    rintro e w5 ⟨rfl, hb⟩
    have HB5 := hid (HB4.out.trans (hb.mono HB4.out.size))
    have U1 := hid (U1.out.below hb LU1.out)
    have LU1 := hid (Nat.le_trans LU1.out hb.size)
    have U2 := hid (U2.out.below hb LU2.out)
    have LU2 := hid (Nat.le_trans LU2.out hb.size)
    clear hb
    clear U1 U2
    go_wp2_with fail
    refine (toIntSS_any v set w5 (HA.out w5 HB5.out) (by have := HS.out; omega) (fun x hx => by have := HS.out.2.2 x hx; omega)).mono ?_
    rintro e w6 ⟨x0, rfl, hX0, hb⟩
    have HB6 := hid (HB5.out.trans (hb.mono HB5.out.size))
    have X0 := hid hX0.span
    have LX0 := hid (Nat.le_refl w6.heap.size)
    clear hb hX0
    go_wp2_with fail
    refine (toPropStepS_any tv ss w6 (HT.out w6 HB6.out) (by have := HSS.out; have := htop.out; omega) (fun x hx => by have := HSS.out.2.2 x hx; have := htop.out; omega)).mono ?_
    rintro e w7 ⟨x1, rfl, hX1, hb⟩
    have AX0X1 := LX0
    have HB7 := hid (HB6.out.trans (hb.mono HB6.out.size))
    have X0 := hid (X0.out.below hb LX0.out)
    have LX0 := hid (Nat.le_trans LX0.out hb.size)
    have X1 := hid hX1.span
    have LX1 := hid (Nat.le_refl w7.heap.size)
    clear hb hX1
    go_wp2_with fail
    refine (implCheck_any x0 x1 set ss w7 X0.out.rep X1.out.rep).mono ?_
    rintro e w8 ⟨rfl, hb⟩
    have HB8 := hid (HB7.out.trans (hb.mono HB7.out.size))
    have X0 := hid (X0.out.below hb LX0.out)
    have LX0 := hid (Nat.le_trans LX0.out hb.size)
    have X1 := hid (X1.out.below hb LX1.out)
    have LX1 := hid (Nat.le_trans LX1.out hb.size)
    clear hb
    go_wp2_with fail
    refine (toIntSS_any v set w8 (HA.out w8 HB8.out) (by have := HS.out; omega) (fun x hx => by have := HS.out.2.2 x hx; omega)).mono ?_
    rintro e w9 ⟨y0, rfl, hY0, hb⟩
    have AX0Y0 := LX0
    have AX1Y0 := LX1
    have HB9 := hid (HB8.out.trans (hb.mono HB8.out.size))
    have X0 := hid (X0.out.below hb LX0.out)
    have LX0 := hid (Nat.le_trans LX0.out hb.size)
    have X1 := hid (X1.out.below hb LX1.out)
    have LX1 := hid (Nat.le_trans LX1.out hb.size)
    have Y0 := hid hY0.span
    have LY0 := hid (Nat.le_refl w9.heap.size)
    clear hb hY0
    go_wp2_with fail
    refine (eqIntSS_any x0 y0 set set w9 X0.out.rep Y0.out.rep).mono ?_
    rintro e w10 ⟨rfl, hq⟩
    rw [beq_self_eq_true]
    have hb := hq.below w9.heap.size
    have HB10 := hid (HB9.out.trans (hb.mono HB9.out.size))
    have X0 := hid (X0.out.below hb LX0.out)
    have LX0 := hid (Nat.le_trans LX0.out hb.size)
    have X1 := hid (X1.out.below hb LX1.out)
    have LX1 := hid (Nat.le_trans LX1.out hb.size)
    have Y0 := hid (Y0.out.below hb LY0.out)
    have LY0 := hid (Nat.le_trans LY0.out hb.size)
    clear hq hb
    clear Y0
    go_wp2_with fail
    refine (toPropStepS_any tv ss w10 (HT.out w10 HB10.out) (by have := HSS.out; have := htop.out; omega) (fun x hx => by have := HSS.out.2.2 x hx; have := htop.out; omega)).mono ?_
    rintro e w11 ⟨y1, rfl, hY1, hb⟩
    have AX0Y1 := LX0
    have AX1Y1 := LX1
    have HB11 := hid (HB10.out.trans (hb.mono HB10.out.size))
    have X0 := hid (X0.out.below hb LX0.out)
    have LX0 := hid (Nat.le_trans LX0.out hb.size)
    have X1 := hid (X1.out.below hb LX1.out)
    have LX1 := hid (Nat.le_trans LX1.out hb.size)
    have Y1 := hid hY1.span
    have LY1 := hid (Nat.le_refl w11.heap.size)
    clear hb hY1
    go_wp2_with fail
    refine (eqPropStepS_same x1 y1 ss w11 X1.out.rep Y1.out.rep).mono ?_
    rintro e w12 ⟨rfl, hb⟩
    have HB12 := hid (HB11.out.trans (hb.mono HB11.out.size))
    have X0 := hid (X0.out.below hb LX0.out)
    have LX0 := hid (Nat.le_trans LX0.out hb.size)
    have X1 := hid (X1.out.below hb LX1.out)
    have LX1 := hid (Nat.le_trans LX1.out hb.size)
    have Y1 := hid (Y1.out.below hb LY1.out)
    have LY1 := hid (Nat.le_trans LY1.out hb.size)
    clear hb
    go_wp2_with fail
    go_ret
    exact ⟨rfl, HB12.out⟩
end Go.Proofs.Ytggialagjkhdfaa
