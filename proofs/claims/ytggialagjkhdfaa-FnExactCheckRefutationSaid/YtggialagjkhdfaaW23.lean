/-
  Sorting at most 12 ints by variable.
  Conditions: those that each theorem names.
-/
import Derived.Test.YtggialagjkhdfaaW22
namespace Go.Proofs.Ytggialagjkhdfaa
open Go.RowKit

set_option maxRecDepth 100000 in
set_option maxHeartbeats 4000000 in
theorem bitsLen64_any (n : Nat) (w : World) (h : n ≤ 12) : Calls Try.prog 131 #[.int .u64 n] w fun e w' => (∃ r, e = .returned (.int .i64 r)) ∧ w' = w := by
  have : n = 0 ∨ n = 1 ∨ n = 2 ∨ n = 3 ∨ n = 4 ∨ n = 5 ∨ n = 6 ∨ n = 7 ∨ n = 8 ∨ n = 9 ∨ n = 10 ∨ n = 11 ∨ n = 12 := by omega
  clear h
  rcases this with rfl | rfl | rfl | rfl | rfl | rfl | rfl | rfl | rfl | rfl | rfl | rfl | rfl
  all_goals
    go_enter Try.func131, Try.ntmps131
    go_wp2_with fail
    go_ret
    exact ⟨⟨_, rfl⟩, rfl⟩

set_option maxHeartbeats 1000000 in
theorem bitsLen_any (n : Nat) (w : World) (h : n ≤ 12) : Calls Try.prog 110 #[.int .u64 n] w fun e w' => (∃ r, e = .returned (.int .i64 r)) ∧ w' = w := by
  have h64 : IntKind.u64.wrap (n : Int) = n := by rw [IntKind.wrap_u64]; omega
  go_enter Try.func110, Try.ntmps110
  go_wp2_with (go_at_call 131; refine (bitsLen64_any n _ h).mono ?_; rintro e w' ⟨⟨r, rfl⟩, hw⟩; rw [hw]; clear hw)
  go_ret
  exact ⟨⟨_, rfl⟩, rfl⟩

set_option maxRecDepth 100000 in
set_option maxHeartbeats 2000000 in
theorem pdqsort_any (b o cap : Nat) (e : TypeId) (xs : List Int) (l : Int) (w : World) (h1 : IntRow w b o e xs) (hx : ∀ x ∈ xs, I64 x) (hc : xs.length ≤ cap) (hl : xs.length ≤ 12) :
    Calls Try.prog 109 #[.slice (some ⟨b, o, none⟩) xs.length cap, .int .i64 0, .int .i64 xs.length, .int .i64 l, .func (.func 67) #[] #[]] w fun e' w' => e' = .returned (.tuple #[]) ∧ IntRow w' b o e (sorted [] xs) ∧ Writes [b] w w' := by
  have HC := insertionSort_any b o cap e xs w h1 hx hc (by omega)
  have hle : (xs.length : Int) ≤ 12 := by omega
  have hsub : IntKind.i64.wrap ((xs.length : Int) - 0) = xs.length := by rw [IntKind.wrap_i64]; omega
  have HX := hid hx
  have HX1 := hid h1
  clear hx h1
  go_enter Try.func109, Try.ntmps109
  go_wp2_with fail
  refine wp_loop_rounds 1 ?_
  rw [rounds_succ]
  go_wp2_with (go_at_call 122; refine HC.mono ?_; rintro e w' ⟨rfl, hr, hw⟩)
  refine bodyPost_ret (results_none rfl _ _ _) rfl ?_
  exact ⟨rfl, hr, hw⟩

set_option maxHeartbeats 1000000 in
theorem sortFunc_any (b o cap : Nat) (e : TypeId) (xs : List Int) (w : World) (h1 : IntRow w b o e xs) (hx : ∀ x ∈ xs, I64 x) (hc : xs.length ≤ cap) (hl : xs.length ≤ 12) :
    Calls Try.prog 66 #[.slice (some ⟨b, o, none⟩) xs.length cap, .func (.func 67) #[] #[]] w fun e' w' => e' = .returned (.tuple #[]) ∧ IntRow w' b o e (sorted [] xs) ∧ Writes [b] w w' := by
  have hu : IntKind.u64.wrap (xs.length : Int) = xs.length := by rw [IntKind.wrap_u64]; omega
  have HC := fun l => pdqsort_any b o cap e xs l w h1 hx hc hl
  have HX1 := hid h1
  clear hx h1
  go_enter Try.func66, Try.ntmps66
  go_wp2_with (first | (go_at_call 110; refine (bitsLen_any xs.length _ hl).mono ?_; rintro e w' ⟨⟨r, rfl⟩, hw⟩; rw [hw]; clear hw) | (go_at_call 109; refine (HC r).mono ?_; rintro e w' ⟨rfl, hr, hw⟩))
  go_end0
  exact ⟨rfl, hr, hw⟩
end Go.Proofs.Ytggialagjkhdfaa
