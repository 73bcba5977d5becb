/-
  Contracts of functions of the program and of its laws: l1Has, l15Set, l15Most, greatest, l20Occurs.
  Conditions: those that each theorem names.
-/
import Derived.Test.YtggialagjkhdfaaW7
namespace Go.Proofs.Ytggialagjkhdfaa
open Go.RowKit

set_option maxHeartbeats 400000 in
theorem l1Has_any (v : Value) (c : List Int) (x : Int) (w : World) (h1 : Ints w v c) :
    Calls Try.prog 99 #[v, .int .i64 x] w fun e w' => e = .returned (.bool (c.contains x)) ∧ Qt w w' := by
  obtain ⟨a1, c1, rfl, k1, m1, r1⟩ := h1.form
  clear h1
  go_enter Try.func99, Try.ntmps99
  go_wp2
  go_loopw [5] (fun i wr => ∃ k : Nat, k ≤ c.length ∧ i = .int .i64 k ∧ Hid (c.contains x = (c.drop k).contains x) ∧ Qt w wr) (fun i _ => c.length - (intOf i).toNat)
  case atStart => exact ⟨0, Nat.zero_le _, rfl, rfl, Qt.refl w⟩
  case round =>
    obtain ⟨k, hk, rfl, ht, hq⟩ := hrel
    by_cases hlt : k < c.length
    · obtain ⟨hi, b, o, rfl, e1⟩ := r1 k hlt
      have e1 := hq.keeps _ _ e1
      have hu : Hid (c.contains x = (x == c[k] || (c.drop (k + 1)).contains x)) := by
        have := ht.out
        rw [drop_cons hlt, List.contains_cons] at this
        exact this
      clear r1 ht
      go_wp2
      · rename_i hd
        go_ret
        exact ⟨ret_bool (by rw [hu.out]; simp at hd; simp [hd]), hq⟩
      · rename_i hd
        go_roundw
        case rel => exact ⟨k + 1, by omega, by go_num, hid (by rw [hu.out]; simp at hd; simp [Ne.symm hd]), hq⟩
        case measure => simp [intOf]; omega
    · go_wp2
      go_ret
      exact ⟨ret_bool (by rw [ht.out, drop_end hlt]; rfl), hq⟩

set_option maxHeartbeats 400000 in
theorem l15Set_any (v : Value) (set : List (List Int)) (w : World) (h1 : Rows2 w v set) :
    Calls Try.prog 48 #[v] w fun e w' => e = .returned (.bool (isSet set)) ∧ Qt w w' := by
  obtain ⟨a1, c1, rfl, k1, m1, r1⟩ := h1.form
  clear h1
  go_enter Try.func48, Try.ntmps48
  go_wp2
  go_loopw [3] (fun i wr => ∃ k : Nat, k ≤ set.length ∧ k ≤ 41 ∧ i = .int .i64 k ∧ Hid (isSet set = (decide (set.length ≤ 40) && (set.drop k).all isClause)) ∧ Qt w wr) (fun i _ => set.length - (intOf i).toNat)
  case atStart => exact ⟨0, Nat.zero_le _, by omega, rfl, rfl, Qt.refl w⟩
  case round =>
    obtain ⟨k, hk, hk2, rfl, ht, hq⟩ := hrel
    by_cases hlt : k < set.length
    · by_cases h40 : k ≤ 40
      · obtain ⟨b, o, u, rfl, e1, hu1⟩ := r1 k hlt
        have e1 := hq.keeps _ _ e1
        have hu2 := hu1.keep hq.keeps
        have hu : Hid (isSet set = (decide (set.length ≤ 40) && (isClause set[k] && (set.drop (k + 1)).all isClause))) := by
          have := ht.out
          rw [drop_cons hlt, List.all_cons] at this
          exact this
        clear r1 ht hu1
        go_wp2_with (go_at_call 68; go_must (refine (l15Clause_any _ _ _ hu2).mono ?_; rintro e w1 ⟨rfl, hq1⟩))
        · rename_i hd
          go_ret
          exact ⟨ret_bool (by rw [hu.out]; simp at hd; simp [hd]), hq.trans hq1⟩
        · rename_i hd
          go_roundw
          case rel => exact ⟨k + 1, by omega, by omega, by go_num, hid (by rw [hu.out]; simp at hd; simp [hd]), hq.trans hq1⟩
          case measure => simp [intOf]; omega
      · go_wp2
        go_ret
        exact ⟨ret_bool (by rw [ht.out, show decide (set.length ≤ 40) = false from by simp; omega, Bool.false_and]; simp; omega), hq⟩
    · go_wp2
      go_ret
      exact ⟨ret_bool (by rw [ht.out, drop_end hlt]; simp; omega), hq⟩

set_option maxHeartbeats 400000 in
theorem l15Most_any (v : Value) (set : List (List Int)) (w : World) (h1 : Rows2 w v set) :
    Calls Try.prog 50 #[v] w fun e w' => e = .returned (.int .i64 (mostS 0 set)) ∧ Qt w w' := by
  obtain ⟨a1, c1, rfl, k1, m1, r1⟩ := h1.form
  clear h1
  go_enter Try.func50, Try.ntmps50
  go_wp2
  go_loopw [3, 4] (fun m i wr => ∃ (k : Nat) (z : Int), k ≤ set.length ∧ i = .int .i64 k ∧ m = .int .i64 z ∧ Hid (mostS 0 set = mostS z (set.drop k)) ∧ Qt w wr) (fun _ i _ => set.length - (intOf i).toNat)
  case atStart => exact ⟨0, 0, Nat.zero_le _, rfl, rfl, rfl, Qt.refl w⟩
  case round =>
    obtain ⟨k, z, hk, rfl, rfl, ht, hq⟩ := hrel
    by_cases hlt : k < set.length
    · obtain ⟨b, o, u, rfl, e1, hu1⟩ := r1 k hlt
      obtain ⟨a2, c2, rfl, k2, m2, r2⟩ := hu1.form
      have hu : Hid (mostS 0 set = mostS (mostC z set[k]) (set.drop (k + 1))) := by
        have := ht.out
        rw [drop_cons hlt, mostS] at this
        exact this
      clear r1 ht hu1
      obtain ⟨wo, rfl⟩ : ∃ wo : World, wo = wr := ⟨_, rfl⟩
      go_wp2
      go_loopw [3, 5] (fun m i wr => ∃ (j : Nat) (y : Int), j ≤ set[k].length ∧ i = .int .i64 j ∧ m = .int .i64 y ∧ Hid (mostC z set[k] = mostC y (set[k].drop j)) ∧ Qt w wr) (fun _ i _ => set[k].length - (intOf i).toNat)
      case atStart => exact ⟨0, z, Nat.zero_le _, rfl, rfl, rfl, hq⟩
      case round =>
        obtain ⟨j, y, hj, rfl, rfl, ht, hq⟩ := hrel
        have e1 := hq.keeps _ _ e1
        by_cases hlj : j < set[k].length
        · obtain ⟨hi, b2, o2, rfl, e2⟩ := r2 j hlj
          have e2 := hq.keeps _ _ e2
          have hv : Hid (mostC z set[k] = mostC (mx y (abs64 set[k][j])) (set[k].drop (j + 1))) := by
            have := ht.out
            rw [drop_cons hlj, mostC] at this
            exact this
          clear r2 ht
          go_wp2_with (first | (go_at_call 98; go_must (refine (l15Abs_any _ _ hi).mono ?_; rintro e w1 ⟨rfl, hw⟩; rw [hw]; clear hw)) | (go_at_call 97; go_must (refine (l1Most_any _ _ _).mono ?_; rintro e w1 ⟨rfl, hw⟩; rw [hw, mx_eq]; clear hw)))
          go_roundw
          case rel => exact ⟨j + 1, _, by omega, by go_num, rfl, hv, hq⟩
          case measure => simp [intOf]; omega
        · have hv : Hid (mostC z set[k] = y) := by
            have := ht.out
            rw [drop_end hlj] at this
            exact this
          clear ht
          go_wp2
          go_roundw
          case rel => exact ⟨k + 1, _, by omega, by go_num, rfl, by rw [← hv.out]; exact hu, hq⟩
          case measure => simp [intOf]; omega
    · go_wp2
      go_ret
      exact ⟨ret_int (by rw [ht.out, drop_end hlt]; rfl), hq⟩

set_option maxHeartbeats 400000 in
theorem greatest_any (v : Value) (set : List (List Int)) (w : World) (h1 : Rows2 w v set) :
    Calls Try.prog 72 #[v] w fun e w' => e = .returned (.int .i64 (mostS 0 set)) ∧ Qt w w' := by
  obtain ⟨a1, c1, rfl, k1, m1, r1⟩ := h1.form
  clear h1
  go_enter Try.func72, Try.ntmps72
  go_wp2
  go_loopw [3, 10] (fun m i wr => ∃ (k : Nat) (z : Int), k ≤ set.length ∧ i = .int .i64 k ∧ m = .int .i64 z ∧ Hid (mostS 0 set = mostS z (set.drop k)) ∧ Qt w wr) (fun _ i _ => set.length - (intOf i).toNat)
  case atStart => exact ⟨0, 0, Nat.zero_le _, rfl, rfl, rfl, Qt.refl w⟩
  case round =>
    obtain ⟨k, z, hk, rfl, rfl, ht, hq⟩ := hrel
    by_cases hlt : k < set.length
    · obtain ⟨b, o, u, rfl, e1, hu1⟩ := r1 k hlt
      obtain ⟨a2, c2, rfl, k2, m2, r2⟩ := hu1.form
      have e1 := hq.keeps _ _ e1
      have hu : Hid (mostS 0 set = mostS (mostC z set[k]) (set.drop (k + 1))) := by
        have := ht.out
        rw [drop_cons hlt, mostS] at this
        exact this
      clear r1 ht hu1
      obtain ⟨wo, rfl⟩ : ∃ wo : World, wo = wr := ⟨_, rfl⟩
      go_wp2
      go_loopw [3, 16] (fun m i wr => ∃ (j : Nat) (y : Int), j ≤ set[k].length ∧ i = .int .i64 j ∧ m = .int .i64 y ∧ Hid (mostC z set[k] = mostC y (set[k].drop j)) ∧ Qt w wr) (fun _ i _ => set[k].length - (intOf i).toNat)
      case atStart => exact ⟨0, z, Nat.zero_le _, rfl, rfl, rfl, hq⟩
      case round =>
        obtain ⟨j, y, hj, rfl, rfl, ht, hq⟩ := hrel
        by_cases hlj : j < set[k].length
        · obtain ⟨hi, b2, o2, rfl, e2⟩ := r2 j hlj
          have e2 := hq.keeps _ _ e2
          have hv : Hid (mostC z set[k] = mostC (mx y (abs64 set[k][j])) (set[k].drop (j + 1))) := by
            have := ht.out
            rw [drop_cons hlj, mostC] at this
            exact this
          clear r2 ht
          go_wp2_with (go_at_call 100; go_must (refine (absolute_any _ _ hi).mono ?_; rintro e w1 ⟨rfl, hw⟩; rw [hw]; clear hw))
          all_goals
            go_roundw
            case rel =>
              exact ⟨j + 1, mx y (abs64 set[k][j]), by omega, by go_num, rfl, hv, hq⟩
            case measure => simp [intOf]; omega
        · have hv : Hid (mostC z set[k] = y) := by
            have := ht.out
            rw [drop_end hlj] at this
            exact this
          clear ht
          go_wp2
          go_roundw
          case rel => exact ⟨k + 1, _, by omega, by go_num, rfl, by rw [← hv.out]; exact hu, hq⟩
          case measure => simp [intOf]; omega
    · go_wp2
      go_ret
      exact ⟨ret_int (by rw [ht.out, drop_end hlt]; rfl), hq⟩

set_option maxHeartbeats 400000 in
theorem l20Occurs_any (v : Value) (set : List (List Int)) (x : Int) (w : World) (h1 : Rows2 w v set) (hx : -9223372036854775807 ≤ x) (hx2 : x ≤ 9223372036854775807) :
    Calls Try.prog 51 #[v, .int .i64 x] w fun e w' => e = .returned (.bool (occurs set x)) ∧ Qt w w' := by
  obtain ⟨a1, c1, rfl, k1, m1, r1⟩ := h1.form
  clear h1
  go_enter Try.func51, Try.ntmps51
  go_wp2
  go_loopw [5] (fun i wr => ∃ k : Nat, k ≤ set.length ∧ i = .int .i64 k ∧ Hid (occurs set x = occurs (set.drop k) x) ∧ Qt w wr) (fun i _ => set.length - (intOf i).toNat)
  case atStart => exact ⟨0, Nat.zero_le _, rfl, rfl, Qt.refl w⟩
  case round =>
    obtain ⟨k, hk, rfl, ht, hq⟩ := hrel
    by_cases hlt : k < set.length
    · obtain ⟨b, o, u, rfl, e1, hu1⟩ := r1 k hlt
      have e1 := hq.keeps _ _ e1
      have hu2 := hid fun wx (hx : Qt wr wx) => (hu1.keep hq.keeps).keep hx.keeps
      have hu : Hid (occurs set x = ((set[k].contains x || set[k].contains (-x)) || occurs (set.drop (k + 1)) x)) := by
        have := ht.out
        rw [drop_cons hlt] at this
        exact hid (by simpa only [occurs, List.any_cons] using this)
      clear r1 ht hu1
      cases hc : set[k].contains x with
      | true =>
        go_wp2_with (go_at_call 99; go_must (refine (l1Has_any _ _ _ _ (hu2.out _ (Qt.refl _))).mono ?_; rintro e w1 ⟨rfl, hq1⟩; rw [hc]))
        go_ret
        exact ⟨ret_bool (by rw [hu.out, hc]; rfl), hq.trans hq1⟩
      | false =>
        go_wp2_with fail
        refine (l1Has_any _ _ _ _ (hu2.out _ (Qt.refl _))).mono ?_
        rintro e w1 ⟨rfl, hq1⟩
        rw [hc]
        have e1' := hq1.keeps _ _ e1
        go_wp2_with (go_at_call 99; go_must (refine (l1Has_any _ _ _ _ (hu2.out _ hq1)).mono ?_; rintro e w2 ⟨rfl, hq2⟩))
        · rename_i hd
          go_ret
          exact ⟨ret_bool (by rw [hu.out, hc, show set[k].contains (-x) = true from by simpa using hd]; rfl), (hq.trans hq1).trans hq2⟩
        · rename_i hd
          go_roundw
          case rel => exact ⟨k + 1, by omega, by go_num, hid (by rw [hu.out, hc, show set[k].contains (-x) = false from by simpa using hd]; rfl), (hq.trans hq1).trans hq2⟩
          case measure => simp [intOf]; omega
    · go_wp2
      go_ret
      exact ⟨ret_bool (by rw [ht.out, drop_end hlt]; rfl), hq⟩
end Go.Proofs.Ytggialagjkhdfaa
