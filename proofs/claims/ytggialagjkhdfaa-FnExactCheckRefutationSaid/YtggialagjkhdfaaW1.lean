/-
  Contracts of functions of the program and of its laws: eqIntS.
  Conditions: those that each theorem names.
-/
import Derived.Test.YtggialagjkhdfaaProg
import Derived.Test.YtggialagjkhdfaaRep
namespace Go.Proofs.Ytggialagjkhdfaa
open Go.RowKit

set_option maxHeartbeats 400000 in
theorem eqIntS_any (v1 v2 : Value) (xs ys : List Int) (w : World) (h1 : Ints w v1 xs) (h2 : Ints w v2 ys) :
    Calls Try.prog 16 #[v1, v2] w fun e w' => e = .returned (.bool (xs == ys)) ∧ Qt w w' := by
  obtain ⟨a1, c1, rfl, k1, m1, r1⟩ := h1.form
  obtain ⟨a2, c2, rfl, k2, m2, r2⟩ := h2.form
  clear h1 h2
  by_cases hl : xs.length = ys.length
  · have hne : ((xs.length : Int) != ys.length) = false := by simp [hl]
    have HL := hid hl
    have hl1 : xs.length ≤ ys.length := by omega
    clear hl
    go_enter Try.func16, Try.ntmps16
    go_wp2
    go_loopw [5] (fun i wr => ∃ k : Nat, k ≤ xs.length ∧ i = .int .i64 k ∧ Hid ((xs == ys) = (xs.drop k == ys.drop k)) ∧ Qt w wr) (fun i _ => xs.length - (intOf i).toNat)
    case atStart => exact ⟨0, Nat.zero_le _, rfl, rfl, Qt.refl w⟩
    case round =>
      obtain ⟨k, hk, rfl, ht, n, rfl⟩ := hrel
      by_cases hlt : k < xs.length
      · obtain ⟨-, b, o, rfl, e1⟩ := r1 k hlt
        obtain ⟨-, b', o', rfl, e2⟩ := r2 k (by omega)
        have hu : Hid ((xs == ys) = (xs[k] == ys[k] && xs.drop (k + 1) == ys.drop (k + 1))) := by
          have := ht.out
          rw [List.drop_eq_getElem_cons hlt, List.drop_eq_getElem_cons (by omega : k < ys.length)] at this
          exact this
        clear r1 r2 ht
        go_wp2
        go_quiet (fail)
        go_wp2
        · rename_i hd
          go_ret
          exact ⟨ret_bool (by rw [hu.out]; simp_all), Qt.of2 _ _⟩
        · rename_i hd
          go_roundw
          case rel => exact ⟨k + 1, by omega, by go_num, hid (by rw [hu.out]; simp_all), Qt.of _⟩
          case measure => simp [intOf]; omega
      · go_wp2
        go_ret
        refine ⟨ret_bool ?_, Qt.of _⟩
        rw [ht.out, List.drop_of_length_le (by omega), List.drop_of_length_le (by have := HL.out; omega)]; rfl
  · have hne : ((xs.length : Int) != ys.length) = true := by simp; omega
    have HL := hid hl
    clear hl r1 r2
    go_enter Try.func16, Try.ntmps16
    go_wp2
    go_ret
    refine ⟨ret_bool ?_, Qt.refl _⟩
    symm; rw [beq_eq_false_iff_ne]; intro h; exact HL.out (by rw [h])
end Go.Proofs.Ytggialagjkhdfaa
