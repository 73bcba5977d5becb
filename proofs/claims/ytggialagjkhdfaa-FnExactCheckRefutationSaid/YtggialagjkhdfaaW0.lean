/-
  Contracts of functions of the program and of its laws: l15Abs, absolute, l1In, within, l1Most.
  Conditions: those that each theorem names.
-/
import Derived.Test.YtggialagjkhdfaaProg
import Derived.Test.YtggialagjkhdfaaRep
namespace Go.Proofs.Ytggialagjkhdfaa
open Go.RowKit

/-- x lies between a and b. -/
def inB (x a b : Int) : Bool := decide (a ≤ x) && decide (x ≤ b)

/-- Go's absolute value on 64 bits. -/
def abs64 (x : Int) : Int := if x < 0 then (if x = -9223372036854775808 then x else -x) else x

theorem wrap_min : wrap64 9223372036854775808 = abs64 (-9223372036854775808) := by
  have h1 : wrap64 9223372036854775808 = -9223372036854775808 := by unfold wrap64; omega
  rw [h1]; unfold abs64; rw [if_pos (by omega), if_pos rfl]
theorem abs_min : (-9223372036854775808 : Int) = abs64 (-9223372036854775808) := by unfold abs64; rw [if_pos (by omega), if_pos rfl]

set_option maxHeartbeats 400000 in
theorem l15Abs_any (x : Int) (w : World) (hx : I64 x) :
    Calls Try.prog 98 #[.int .i64 x] w fun e w' => e = .returned (.int .i64 (abs64 x)) ∧ w' = w := by
  unfold I64 at hx
  obtain ⟨hx1, hx2⟩ := hx
  go_enter Try.func98, Try.ntmps98
  by_cases hm : x < 0
  · by_cases hmin : x = -9223372036854775808
    · subst hmin
      go_wp2
      go_ret
      exact ⟨ret_int wrap_min, rfl⟩
    · have hb : -9223372036854775807 ≤ x := by omega
      have H := hid hmin
      clear hmin
      go_wp2
      go_ret
      exact ⟨ret_int (by unfold abs64; rw [if_pos hm, if_neg H.out]), rfl⟩
  · go_wp2
    go_ret
    exact ⟨ret_int (by unfold abs64; rw [if_neg (by omega)]), rfl⟩

set_option maxHeartbeats 400000 in
theorem absolute_any (x : Int) (w : World) (hx : I64 x) :
    Calls Try.prog 100 #[.int .i64 x] w fun e w' => e = .returned (.int .i64 (abs64 x)) ∧ w' = w := by
  unfold I64 at hx
  obtain ⟨hx1, hx2⟩ := hx
  go_enter Try.func100, Try.ntmps100
  by_cases hmin : x = -9223372036854775808
  · subst hmin
    go_wp2
    all_goals (go_ret; exact ⟨ret_int (by first | exact wrap_min | exact abs_min), rfl⟩)
  · have hb : -9223372036854775807 ≤ x := by omega
    have H := hid hmin
    clear hmin
    go_wp2
    all_goals (go_ret; refine ⟨ret_int ?_, rfl⟩; unfold abs64; have := H.out; first | (rw [if_pos (by omega), if_neg this]; done) | (rw [if_neg (by omega)]; done) | (have : x = 0 := by omega); subst this; rfl)

set_option maxHeartbeats 400000 in
theorem l1In_any (x a b : Int) (w : World) :
    Calls Try.prog 49 #[.int .i64 x, .int .i64 a, .int .i64 b] w fun e w' => e = .returned (.bool (inB x a b)) ∧ w' = w := by
  go_enter Try.func49, Try.ntmps49
  go_wp2
  all_goals (go_ret; exact ⟨ret_bool (by simp_all [inB] <;> omega), rfl⟩)

set_option maxHeartbeats 400000 in
theorem within_any (x a b : Int) (w : World) :
    Calls Try.prog 76 #[.int .i64 x, .int .i64 a, .int .i64 b] w fun e w' => e = .returned (.bool (inB x a b)) ∧ w' = w := by
  go_enter Try.func76, Try.ntmps76
  go_wp2
  all_goals (go_ret; exact ⟨ret_bool (by simp_all [inB] <;> omega), rfl⟩)

set_option maxHeartbeats 400000 in
theorem l1Most_any (a b : Int) (w : World) :
    Calls Try.prog 97 #[.int .i64 a, .int .i64 b] w fun e w' => e = .returned (.int .i64 (if b < a then a else b)) ∧ w' = w := by
  go_enter Try.func97, Try.ntmps97
  go_wp2
  all_goals (go_ret; exact ⟨ret_int (by simp_all), rfl⟩)

end Go.Proofs.Ytggialagjkhdfaa
