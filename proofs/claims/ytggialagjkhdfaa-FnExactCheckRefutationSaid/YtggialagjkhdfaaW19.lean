/-
  The reference's check of a refutation.
  Conditions: those that each theorem names.
-/
import Derived.Test.YtggialagjkhdfaaW18
namespace Go.Proofs.Ytggialagjkhdfaa
open Go.RowKit

set_option maxHeartbeats 400000 in
theorem l1Same_any (v1 v2 : Value) (xs ys : List Int) (w : World) (h1 : Ints w v1 xs) (h2 : Ints w v2 ys) :
    Calls Try.prog 115 #[v1, v2] w fun e w' => e = .returned (.bool (xs == ys)) ∧ Qt w w' := by
  obtain ⟨a1, c1, rfl, k1, m1, r1⟩ := h1.form
  obtain ⟨a2, c2, rfl, k2, m2, r2⟩ := h2.form
  clear h1 h2
  by_cases hl : xs.length = ys.length
  · have hne : ((xs.length : Int) != ys.length) = false := by simp [hl]
    have HL := hid hl
    have hl1 : xs.length ≤ ys.length := by omega
    clear hl
    go_enter Try.func115, Try.ntmps115
    go_wp2
    go_loopw [5] (fun i wr => ∃ k : Nat, k ≤ xs.length ∧ i = .int .i64 k ∧ Hid ((xs == ys) = (xs.drop k == ys.drop k)) ∧ Qt w wr) (fun i _ => xs.length - (intOf i).toNat)
    case atStart => exact ⟨0, Nat.zero_le _, rfl, rfl, Qt.refl w⟩
    case round =>
      obtain ⟨k, hk, rfl, ht, n, rfl⟩ := hrel
      by_cases hlt : k < xs.length
      · obtain ⟨-, b, o, rfl, e1⟩ := r1 k hlt
        obtain ⟨-, b', o', rfl, e2⟩ := r2 k (by omega)
        have hu : Hid ((xs == ys) = (xs[k] == ys[k] && xs.drop (k + 1) == ys.drop (k + 1))) := by
          have := ht.out
          rw [List.drop_eq_getElem_cons hlt, List.drop_eq_getElem_cons (by omega : k < ys.length)] at this
          exact this
        clear r1 r2 ht
        go_wp2
        go_quiet (fail)
        go_wp2
        · rename_i hd
          go_ret
          exact ⟨ret_bool (by rw [hu.out]; simp_all), Qt.of2 _ _⟩
        · rename_i hd
          go_roundw
          case rel => exact ⟨k + 1, by omega, by go_num, hid (by rw [hu.out]; simp_all), Qt.of _⟩
          case measure => simp [intOf]; omega
      · go_wp2
        go_ret
        refine ⟨ret_bool ?_, Qt.of _⟩
        rw [ht.out, List.drop_of_length_le (by omega), List.drop_of_length_le (by have := HL.out; omega)]; rfl
  · have hne : ((xs.length : Int) != ys.length) = true := by simp; omega
    have HL := hid hl
    clear hl r1 r2
    go_enter Try.func115, Try.ntmps115
    go_wp2
    go_ret
    refine ⟨ret_bool ?_, Qt.refl _⟩
    symm; rw [beq_eq_false_iff_ne]; intro h; exact HL.out (by rw [h])

/-- Is the k-th step right? -/
def goodStep (set : List (List Int)) (ss : List PStep) (k : Nat) (s : PStep) : Bool :=
  inB s.left 0 ((set.length : Int) + k - 1) && inB s.right 0 ((set.length : Int) + k - 1) && inB s.pivot 1 12 &&
    decide (resolve (clauseNo set ss s.left.toNat) (clauseNo set ss s.right.toNat) s.pivot = some s.clause)
/-- The first wrong step from the k-th on; behind the last: whether it is empty. -/
def checkFrom (set : List (List Int)) (ss : List PStep) (k : Nat) : List PStep → Int
  | [] => if 0 < (ss.getD (ss.length - 1) ⟨0, 0, 0, []⟩).clause.length then ss.length else -1
  | s :: rest => if goodStep set ss k s then checkFrom set ss (k + 1) rest else k

theorem good_clause {set : List (List Int)} {ss : List PStep} {k : Nat} {s : PStep} (hset : isSet set = true) (hprev : ∀ i (h : i < ss.length), i < k → isClause ss[i].clause = true) (hk : k ≤ ss.length) (h : goodStep set ss k s = true) :
    isClause s.clause = true := by
  unfold goodStep at h
  simp only [Bool.and_eq_true, inB_iff, decide_eq_true_eq] at h
  obtain ⟨⟨⟨h1, h2⟩, h3⟩, h4⟩ := h
  have hc : ∀ x : Int, 0 ≤ x ∧ x ≤ (set.length : Int) + k - 1 → isClause (clauseNo set ss x.toNat) = true := fun x hx => by
    unfold clauseNo
    split
    · rename_i hlt
      have hset' := hset
      unfold isSet at hset'
      rw [Bool.and_eq_true, List.all_eq_true] at hset'
      rw [List.getD, List.getElem?_eq_getElem hlt]
      exact hset'.2 _ (List.getElem_mem _)
    · rename_i hge
      have hlt : x.toNat - set.length < ss.length := by omega
      rw [List.getD, List.getElem?_eq_getElem hlt]
      exact hprev _ hlt (by omega)
  exact resolve_clause (hc _ h1) (hc _ h2) h4
end Go.Proofs.Ytggialagjkhdfaa
