/-
  Contracts of functions of the program and of its laws: szIntS, szIntSS.
  Conditions: those that each theorem names.
-/
import Derived.Test.YtggialagjkhdfaaW2
import Derived.Test.YtggialagjkhdfaaW1
import Derived.Deep.RegionWith
import Derived.Deep.DeepMust
namespace Go.Proofs.Ytggialagjkhdfaa
open Go.RowKit

set_option maxHeartbeats 400000 in
theorem szIntS_any (ao : Option Addr) (n c : Nat) (left : Int) (w : World) (hl : -1 ≤ left) (hl2 : left ≤ 1048576) (hn : n ≤ 9223372036854775807) :
    Calls Try.prog 47 #[.slice ao n c, .int .i64 left] w fun e w' => e = .returned (.int .i64 (if left - n < 0 then -1 else left - n)) ∧ w = w' := by
  go_enter Try.func47, Try.ntmps47
  go_wp2
  all_goals (go_ret; refine ⟨ret_int ?_, rfl⟩; first | rfl | (rw [if_pos (by omega)]; done) | (rw [if_neg (by omega)]; done))

/-- What is left of a bound behind rows. -/
def szGo (left : Int) : List (List Int) → Int
  | [] => left
  | x :: xs => if left - x.length < 0 then -1 else szGo (left - x.length) xs
def szRows (left : Int) (xss : List (List Int)) : Int := if left - xss.length < 0 then -1 else szGo (left - xss.length) xss

set_option maxHeartbeats 400000 in
theorem szIntSS_any (v : Value) (xss : List (List Int)) (left : Int) (w : World) (h1 : Rows2 w v xss) (hl : 0 ≤ left) (hl2 : left ≤ 1048576) :
    Calls Try.prog 12 #[v, .int .i64 left] w fun e w' => e = .returned (.int .i64 (szRows left xss)) ∧ Qt w w' := by
  obtain ⟨a1, c1, rfl, k1, m1, r1⟩ := h1.form
  clear h1
  go_enter Try.func12, Try.ntmps12
  by_cases hlen : left - xss.length < 0
  · go_wp2
    go_ret
    exact ⟨ret_int (by unfold szRows; rw [if_pos (by omega)]), Qt.refl _⟩
  · have H0 : Hid (szRows left xss = szGo (left - xss.length) xss) := by unfold szRows; exact hid (if_neg hlen)
    go_wp2
    go_loopw [1, 5] (fun l i wr => ∃ (k : Nat) (z : Int), k ≤ xss.length ∧ i = .int .i64 k ∧ l = .int .i64 z ∧ 0 ≤ z ∧ z ≤ 1048576 ∧ Hid (szRows left xss = szGo z (xss.drop k)) ∧ Qt w wr) (fun _ i _ => xss.length - (intOf i).toNat)
    case atStart => exact ⟨0, _, Nat.zero_le _, rfl, rfl, by omega, by omega, H0, Qt.refl w⟩
    case round =>
      obtain ⟨k, z, hk, rfl, rfl, hz, hz2, ht, n, rfl⟩ := hrel
      by_cases hlt : k < xss.length
      · obtain ⟨b, o, u, rfl, e1, hu⟩ := r1 k hlt
        obtain ⟨a2, c2, rfl, k2, m2, -⟩ := hu.form
        have hu : Hid (szRows left xss = if z - xss[k].length < 0 then -1 else szGo (z - xss[k].length) (xss.drop (k + 1))) := by
          have := ht.out
          rw [drop_cons hlt] at this
          exact this
        clear r1 ht H0
        by_cases hneg : z - xss[k].length < 0
        · go_wp2_with (go_at_call 47; go_must (refine (szIntS_any _ _ _ _ _ (by omega) (by omega) (by omega)).mono ?_; rintro e w' ⟨rfl, rfl⟩; rw [if_pos hneg]))
          go_ret
          exact ⟨ret_int (by rw [hu.out, if_pos (by omega)]), Qt.of _⟩
        · go_wp2_with (go_at_call 47; go_must (refine (szIntS_any _ _ _ _ _ (by omega) (by omega) (by omega)).mono ?_; rintro e w' ⟨rfl, rfl⟩; rw [if_neg hneg]))
          go_roundw
          case rel => exact ⟨k + 1, z - xss[k].length, by omega, by go_num, rfl, by omega, by omega, hid (by rw [hu.out, if_neg (by omega)]), Qt.of _⟩
          case measure => simp [intOf]; omega
      · go_wp2
        go_ret
        refine ⟨ret_int ?_, Qt.of _⟩
        rw [ht.out, drop_end hlt]; rfl
end Go.Proofs.Ytggialagjkhdfaa
