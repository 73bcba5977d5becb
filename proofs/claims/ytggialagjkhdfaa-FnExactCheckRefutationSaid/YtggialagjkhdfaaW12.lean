/-
  Contracts of functions of the program and of its laws: implColors.
  Conditions: those that each theorem names.
-/
import Derived.Test.YtggialagjkhdfaaW11
namespace Go.Proofs.Ytggialagjkhdfaa
open Go.RowKit

/-- What VariableColors answers. -/
def colorsOk (set : List (List Int)) (split : Int) : Bool := isSet set && inB split 0 set.length
def colorsOut (set : List (List Int)) (split : Int) : List Int := if colorsOk set split then colorList set split.toNat else []

set_option maxHeartbeats 400000 in
theorem implColors_any (v : Value) (set : List (List Int)) (split : Int) (w : World) (h1 : Rows2 w v set) :
    Calls Try.prog 15 #[v, .int .i64 split] w fun e w' => ∃ u, e = .returned (.tuple #[u, .bool (colorsOk set split)]) ∧
      Fresh w.heap.size w' (ints (colorsOut set split)) [u] ∧ Below w.heap.size w w' := by
  have HC := hid (isSplit_any v set split w h1)
  have HN := hid fun wx (hq : Qt w wx) sp hs => colors_any v set sp wx (h1.keep hq.keeps) hs
  obtain ⟨a1, c1, rfl, k1, m1, r1⟩ := h1.form
  clear h1 r1
  go_enter Try.func15, Try.ntmps15
  cases hok : colorsOk set split with
  | false =>
    have ho : Hid (colorsOut set split = []) := by unfold colorsOut; rw [hok]; exact hid rfl
    unfold colorsOk at hok
    rw [hok] at HC
    go_wp2_with fail
    refine HC.out.mono ?_
    rintro e w1 ⟨rfl, hq⟩
    go_wp2_with fail
    go_ret2
    refine ⟨_, rfl, ?_, hq.below _⟩
    rw [ho.out]
    exact ⟨[], ⟨none, 0, rfl, Nat.le_refl _, by omega, Or.inl ⟨rfl, rfl⟩⟩, List.nodup_nil, by simp⟩
  | true =>
    have ho : Hid (colorsOut set split = colorList set split.toNat) := by unfold colorsOut; rw [hok]; exact hid rfl
    unfold colorsOk at hok
    have hok2 := hid hok
    rw [hok] at HC
    rw [Bool.and_eq_true] at hok
    obtain ⟨hs, hsp⟩ := hok
    obtain ⟨sp, rfl⟩ : ∃ sp : Nat, split = sp := ⟨split.toNat, by have := inB_iff.1 hsp; omega⟩
    go_wp2_with fail
    refine HC.out.mono ?_
    rintro e w1 ⟨rfl, hq⟩
    go_wp2_with fail
    refine (HN.out w1 hq sp hs).mono ?_
    rintro e w2 ⟨u, rfl, hfr, hb⟩
    obtain ⟨q, rfl⟩ := hq
    rw [paint_colors hs] at hfr
    go_wp2_with fail
    go_ret2
    refine ⟨_, rfl, ?_, ((Qt.of q).below _).trans hb⟩
    rw [ho.out, Int.toNat_natCast]
    exact hfr
end Go.Proofs.Ytggialagjkhdfaa
