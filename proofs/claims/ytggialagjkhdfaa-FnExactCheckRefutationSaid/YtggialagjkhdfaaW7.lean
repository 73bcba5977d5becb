/-
  Contracts of functions of the program and of its laws: l15Clause, isPropClause.
  Conditions: those that each theorem names.
-/
import Derived.Test.YtggialagjkhdfaaW6
import Derived.Test.YtggialagjkhdfaaP15
namespace Go.Proofs.Ytggialagjkhdfaa
open Go.RowKit

set_option maxHeartbeats 400000 in
theorem l15Clause_any (v : Value) (c : List Int) (w : World) (h1 : Ints w v c) :
    Calls Try.prog 68 #[v] w fun e w' => e = .returned (.bool (isClause c)) ∧ Qt w w' := by
  obtain ⟨a1, c1, rfl, k1, m1, r1⟩ := h1.form
  clear h1
  go_enter Try.func68, Try.ntmps68
  go_wp2
  go_loopw [3] (fun i wr => ∃ k : Nat, k ≤ c.length ∧ i = .int .i64 k ∧ Hid (isClause c = clauseFrom (before c k) (c.drop k)) ∧ Qt w wr) (fun i _ => c.length - (intOf i).toNat)
  case atStart => exact ⟨0, Nat.zero_le _, rfl, hid (by simp [before, isClause]), Qt.refl w⟩
  case round =>
    obtain ⟨k, hk, rfl, ht, hq⟩ := hrel
    by_cases hlt : k < c.length
    · obtain ⟨hi, b, o, rfl, e1⟩ := r1 k hlt
      have e1 := hq.keeps _ _ e1
      have hu : Hid (isClause c = (inB (abs64 c[k]) 1 12 && decide (before c k < abs64 c[k]) && clauseFrom (before c (k + 1)) (c.drop (k + 1)))) := by
        have := ht.out
        rw [clause_step hlt] at this
        exact this
      clear ht
      cases hb : inB (abs64 c[k]) 1 12 with
      | false =>
        clear r1
        go_wp2
        go_quiet (first | (go_at_call 98; exact Calls.quiet_of_same (l15Abs_any _ _ (by assumption))) | (go_at_call 49; exact Calls.quiet_of_same (l1In_any _ _ _ _)))
        go_wp2
        go_ret
        exact ⟨ret_bool (by rw [hu.out, hb]; rfl), hq.drewN _⟩
      | true =>
        by_cases hk0 : k = 0
        · subst hk0
          rw [Nat.add_zero] at e1
          clear r1
          go_wp2
          go_quiet (first | (go_at_call 98; exact Calls.quiet_of_same (l15Abs_any _ _ (by assumption))) | (go_at_call 49; exact Calls.quiet_of_same (l1In_any _ _ _ _)))
          go_wp2
          go_roundw
          case rel => exact ⟨1, by omega, by go_num, hid (by rw [hu.out, hb]; simp [before]; have := inB_iff.1 hb; omega), hq.drewN _⟩
          case measure => simp [intOf]; omega
        · have hkp : k - 1 < c.length := by omega
          obtain ⟨hi2, b2, o2, heq, e2⟩ := r1 (k - 1) hkp
          obtain ⟨rfl, rfl⟩ : b = b2 ∧ o = o2 := by simpa using heq
          have e2 := hq.keeps _ _ e2
          have hb4 : before c k = abs64 c[k - 1] := by unfold before; rw [if_neg hk0]; simp [hkp]
          rw [hb4] at hu
          obtain ⟨j, rfl⟩ : ∃ j, k = j + 1 := ⟨k - 1, by omega⟩
          simp only [Nat.add_sub_cancel] at *
          clear r1 hk0 heq hb4
          rw [show ((j + 1 : Nat) : Int) = (j : Int) + 1 from by omega]
          go_wp2
          go_quiet (first | (go_at_call 98; exact Calls.quiet_of_same (l15Abs_any _ _ (by assumption))) | (go_at_call 49; exact Calls.quiet_of_same (l1In_any _ _ _ _)))
          go_wp2
          · rename_i hd
            go_ret
            exact ⟨ret_bool (by rw [hu.out, hb, show decide (abs64 c[j] < abs64 c[j + 1]) = false from by simpa using hd]; rfl), hq.drewN _⟩
          · rename_i hd
            go_roundw
            case rel => exact ⟨j + 1 + 1, by omega, by go_num, hid (by rw [hu.out, hb, show decide (abs64 c[j] < abs64 c[j + 1]) = true from by simpa using hd]; rfl), hq.drewN _⟩
            case measure => simp [intOf]; omega
    · go_wp2
      go_ret
      refine ⟨ret_bool ?_, hq⟩
      rw [ht.out, drop_end hlt]; rfl

theorem inB_abs {l : Int} (h : I64 l) : inB (abs64 l) 1 12 = (!(l == 0) && inB l (-12) 12) := by
  unfold I64 at h
  rw [Bool.eq_iff_iff, Bool.and_eq_true, inB_iff, inB_iff]
  simp only [Bool.not_eq_true', beq_eq_false_iff_ne]
  unfold abs64
  split <;> (try split) <;> constructor <;> intro h <;> refine ⟨?_, ?_⟩ <;> omega

set_option maxHeartbeats 400000 in
theorem isPropClause_any (v : Value) (c : List Int) (w : World) (h1 : Ints w v c) :
    Calls Try.prog 60 #[v] w fun e w' => e = .returned (.bool (isClause c)) ∧ Qt w w' := by
  obtain ⟨a1, c1, rfl, k1, m1, r1⟩ := h1.form
  clear h1
  go_enter Try.func60, Try.ntmps60
  go_wp2
  go_loopw [7] (fun i wr => ∃ k : Nat, k ≤ c.length ∧ i = .int .i64 k ∧ Hid (isClause c = clauseFrom (before c k) (c.drop k)) ∧ Qt w wr) (fun i _ => c.length - (intOf i).toNat)
  case atStart => exact ⟨0, Nat.zero_le _, rfl, hid (by simp [before, isClause]), Qt.refl w⟩
  case round =>
    obtain ⟨k, hk, rfl, ht, hq⟩ := hrel
    by_cases hlt : k < c.length
    · obtain ⟨hi, b, o, rfl, e1⟩ := r1 k hlt
      have e1 := hq.keeps _ _ e1
      have hu : Hid (isClause c = (inB (abs64 c[k]) 1 12 && decide (before c k < abs64 c[k]) && clauseFrom (before c (k + 1)) (c.drop (k + 1)))) := by
        have := ht.out
        rw [clause_step hlt] at this
        exact this
      have hab := hid (inB_abs hi)
      clear ht
      cases hz : c[k] == 0 with
      | true =>
        clear r1
        go_wp2
        go_ret
        exact ⟨ret_bool (by rw [hu.out, hab.out, hz]; rfl), hq⟩
      | false =>
      cases hb : inB c[k] (-12) 12 with
      | false =>
        clear r1
        go_wp2_with (first | (go_at_call 100; refine (absolute_any _ _ (by assumption)).mono ?_; rintro e w' ⟨rfl, hw⟩; rw [hw]; clear hw) | (go_at_call 76; refine (within_any _ _ _ _).mono ?_; rintro e w' ⟨rfl, hw⟩; rw [hw]; clear hw))
        go_ret
        exact ⟨ret_bool (by rw [hu.out, hab.out, hb, hz]; rfl), hq⟩
      | true =>
        have hbb : Hid (inB (abs64 c[k]) 1 12 = true) := by rw [hab.out, hb, hz]; rfl
        clear hab
        by_cases hk0 : k = 0
        · subst hk0
          rw [Nat.add_zero] at e1
          clear r1
          go_wp2_with (first | (go_at_call 100; refine (absolute_any _ _ (by assumption)).mono ?_; rintro e w' ⟨rfl, hw⟩; rw [hw]; clear hw) | (go_at_call 76; refine (within_any _ _ _ _).mono ?_; rintro e w' ⟨rfl, hw⟩; rw [hw]; clear hw))
          go_roundw
          case rel => exact ⟨1, by omega, by go_num, hid (by rw [hu.out, hbb.out]; simp [before]; have := inB_iff.1 hbb.out; omega), hq⟩
          case measure => simp [intOf]; omega
        · have hkp : k - 1 < c.length := by omega
          obtain ⟨hi2, b2, o2, heq, e2⟩ := r1 (k - 1) hkp
          obtain ⟨rfl, rfl⟩ : b = b2 ∧ o = o2 := by simpa using heq
          have e2 := hq.keeps _ _ e2
          have hb4 : before c k = abs64 c[k - 1] := by unfold before; rw [if_neg hk0]; simp [hkp]
          rw [hb4] at hu
          obtain ⟨j, rfl⟩ : ∃ j, k = j + 1 := ⟨k - 1, by omega⟩
          simp only [Nat.add_sub_cancel] at *
          clear r1 hk0 heq hb4
          rw [show ((j + 1 : Nat) : Int) = (j : Int) + 1 from by omega]
          go_wp2_with (first | (go_at_call 100; refine (absolute_any _ _ (by assumption)).mono ?_; rintro e w' ⟨rfl, hw⟩; rw [hw]; clear hw) | (go_at_call 76; refine (within_any _ _ _ _).mono ?_; rintro e w' ⟨rfl, hw⟩; rw [hw]; clear hw))
          · rename_i hd
            go_ret
            exact ⟨ret_bool (by rw [hu.out, hbb.out, show decide (abs64 c[j] < abs64 c[j + 1]) = false from by simpa using hd]; rfl), hq⟩
          · rename_i hd
            go_roundw
            case rel => exact ⟨j + 1 + 1, by omega, by go_num, hid (by rw [hu.out, hbb.out, show decide (abs64 c[j] < abs64 c[j + 1]) = true from by simpa using hd]; rfl), hq⟩
            case measure => simp [intOf]; omega
    · go_wp2
      go_ret
      refine ⟨ret_bool ?_, hq⟩
      rw [ht.out, drop_end hlt]; rfl
end Go.Proofs.Ytggialagjkhdfaa
