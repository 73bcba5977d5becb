/-
  impl's clause with a number.
  Conditions: those that each theorem names.
-/
import Derived.Test.YtggialagjkhdfaaW25
import Derived.Test.YtggialagjkhdfaaW20
namespace Go.Proofs.Ytggialagjkhdfaa
open Go.RowKit

/-- The clause with a number that impl finds. -/
def clauseTo (set : List (List Int)) (ss : List PStep) (k : Nat) (i : Int) : List Int := if inB i 0 ((set.length : Int) + k - 1) then clauseNo set ss i.toNat else []

set_option maxRecDepth 100000 in
set_option maxHeartbeats 1000000 in
theorem clauseAt_any (sv : Value) (a2 : Option Addr) (c2 : Nat) (set : List (List Int)) (ss : List PStep) (k : Nat) (i : Int) (w : World) (h1 : Rows2 w sv set) (h2 : Steps w (.slice a2 ss.length c2) ss) (hk : k ≤ ss.length) (hl1 : set.length ≤ 1048576) (hl2 : ss.length ≤ 1048576) :
    ∃ u, Ints w u (clauseTo set ss k i) ∧ ∀ wx, Qt w wx → Calls Try.prog 84 #[sv, .slice a2 k c2, .int .i64 i] wx fun e w' => e = .returned (.tuple #[u, .bool (inB i 0 ((set.length : Int) + k - 1))]) ∧ Qt wx w' := by
  obtain ⟨a1, c1, rfl, k1, m1, r1⟩ := h1.form
  obtain ⟨a2', c2', h2e, k2, m2, r2⟩ := h2.form
  simp only [Value.slice.injEq, true_and] at h2e
  obtain ⟨rfl, rfl⟩ := h2e
  clear h1 h2
  have hw1 : IntKind.i64.wrap ((set.length : Int) - 1) = set.length - 1 := by rw [IntKind.wrap_i64]; omega
  have hw2 : IntKind.i64.wrap ((set.length : Int) + k) = set.length + k := by rw [IntKind.wrap_i64]; omega
  have hw3 : IntKind.i64.wrap ((set.length : Int) + k - 1) = set.length + k - 1 := by rw [IntKind.wrap_i64]; omega
  cases g1 : inB i 0 ((set.length : Int) - 1) with
  | true =>
    obtain ⟨n, rfl⟩ : ∃ n : Nat, i = n := ⟨i.toNat, by have := inB_iff.1 g1; omega⟩
    have hlt : n < set.length := by have := inB_iff.1 g1; omega
    have hin : inB (n : Int) 0 ((set.length : Int) + k - 1) = true := inB_iff.2 (by omega)
    obtain ⟨b, o, u, rfl, e1, hu⟩ := r1 n hlt
    refine ⟨u, by unfold clauseTo clauseNo; rw [if_pos hin, Int.toNat_natCast, if_pos hlt]; simpa [List.getD, hlt] using hu, ?_⟩
    clear r1 r2 hu
    intro wx hq
    have e1 := hq.keeps _ _ e1
    clear hq
    rw [hin]
    go_enter Try.func84, Try.ntmps84
    go_wp2_with (go_at_call 76; refine (within_any _ _ _ _).mono ?_; rintro e w' ⟨rfl, hw⟩; rw [hw, g1]; clear hw)
    go_ret2
    exact ⟨rfl, Qt.refl _⟩
  | false =>
    cases g2 : inB i set.length ((set.length : Int) + k - 1) with
    | true =>
      obtain ⟨m, rfl⟩ : ∃ m : Nat, i = ((set.length + m : Nat) : Int) := ⟨(i - set.length).toNat, by have := inB_iff.1 g2; omega⟩
      have hm : m < k := by have := inB_iff.1 g2; omega
      have hms : m < ss.length := by omega
      have hin : inB ((set.length + m : Nat) : Int) 0 ((set.length : Int) + k - 1) = true := inB_iff.2 (by omega)
      obtain ⟨b, o, u, rfl, e1, e2, e3, e4, -, -, -, hu⟩ := r2 m hms
      refine ⟨u, by unfold clauseTo clauseNo; rw [if_pos hin, Int.toNat_natCast, if_neg (by omega), Nat.add_sub_cancel_left]; simpa [List.getD, hms] using hu, ?_⟩
      clear r1 r2 hu
      intro wx hq
      have e1 := hq.keeps _ _ e1
      have e2 := hq.keeps _ _ e2
      have e3 := hq.keeps _ _ e3
      have e4 := hq.keeps _ _ e4
      clear hq
      rw [hin]
      obtain ⟨i, hi⟩ : ∃ i, Hid (((set.length + m : Nat) : Int) = i) := ⟨_, hid rfl⟩
      rw [hi.out] at g1 g2 ⊢
      have hw : IntKind.i64.wrap (i - set.length) = m := by rw [IntKind.wrap_i64, ← hi.out]; omega
      go_enter Try.func84, Try.ntmps84
      go_wp2_with fail
      refine (within_any _ _ _ _).mono ?_
      rintro e w' ⟨rfl, hw⟩
      rw [hw, g1]
      clear hw
      go_wp2_with fail
      refine (within_any _ _ _ _).mono ?_
      rintro e w' ⟨rfl, hw⟩
      rw [hw, g2]
      clear hw
      go_wp2_with fail
      go_ret2
      exact ⟨rfl, Qt.refl _⟩
    | false =>
      have hin : inB i 0 ((set.length : Int) + k - 1) = false := inB_not.2 (by have h1 := inB_not.1 g1; have h2 := inB_not.1 g2; omega)
      refine ⟨.slice none 0 0, by unfold clauseTo; rw [hin]; exact Ints.nil none, ?_⟩
      clear r1 r2
      intro wx hq
      clear hq
      rw [hin]
      go_enter Try.func84, Try.ntmps84
      go_wp2_with fail
      refine (within_any _ _ _ _).mono ?_
      rintro e w' ⟨rfl, hw⟩
      rw [hw, g1]
      clear hw
      go_wp2_with fail
      refine (within_any _ _ _ _).mono ?_
      rintro e w' ⟨rfl, hw⟩
      rw [hw, g2]
      clear hw
      go_wp2_with fail
      go_ret2
      exact ⟨rfl, Qt.refl _⟩
end Go.Proofs.Ytggialagjkhdfaa
