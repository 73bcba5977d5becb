/-
  Contracts of the reference's functions on the clauses of a refutation and their check.
  Conditions: those that each theorem names.
-/
import Derived.Test.YtggialagjkhdfaaW17
import Derived.Deep.RegionHeld3
namespace Go.Proofs.Ytggialagjkhdfaa
open Go.RowKit

/-- The clause with a number. -/
def clauseNo (set : List (List Int)) (ss : List PStep) (i : Nat) : List Int := if i < set.length then set.getD i [] else (ss.getD (i - set.length) ⟨0, 0, 0, []⟩).clause

set_option maxRecDepth 100000 in
set_option maxHeartbeats 400000 in
theorem clause_any (p : Nat) (sv tv : Value) (set : List (List Int)) (ss : List PStep) (n : Nat) (w : World) (hs : w.cell? ⟨p, 0, none⟩ = some sv) (ht : w.cell? ⟨p, 1, none⟩ = some tv) (h1 : Rows2 w sv set) (h2 : Steps w tv ss) (hn : n < set.length + ss.length) :
    ∃ u, Ints w u (clauseNo set ss n) ∧ ∀ wx, Qt w wx → Calls Try.prog 114 #[.pointer (some ⟨p, 0, none⟩), .int .i64 n] wx fun e w' => e = .returned u ∧ Qt wx w' := by
  obtain ⟨a1, c1, rfl, k1, m1, r1⟩ := h1.form
  obtain ⟨a2, c2, rfl, k2, m2, r2⟩ := h2.form
  clear h1 h2
  by_cases hlt : n < set.length
  · obtain ⟨b, o, u, rfl, e1, hu⟩ := r1 n hlt
    refine ⟨u, by unfold clauseNo; rw [if_pos hlt]; simpa [List.getD, hlt] using hu, ?_⟩
    clear r1 r2 hu
    intro wx hq
    have hs := hq.keeps _ _ hs
    have ht := hq.keeps _ _ ht
    have e1 := hq.keeps _ _ e1
    clear hq
    go_enter Try.func114, Try.ntmps114
    go_wp2_with fail
    go_ret
    exact ⟨rfl, Qt.refl _⟩
  · obtain ⟨m, rfl⟩ : ∃ m, n = set.length + m := ⟨n - set.length, by omega⟩
    have hm : m < ss.length := by omega
    obtain ⟨b, o, u, rfl, e1, e2, e3, e4, -, -, -, hu⟩ := r2 m hm
    refine ⟨u, by unfold clauseNo; rw [if_neg hlt, Nat.add_sub_cancel_left]; simpa [List.getD, hm] using hu, ?_⟩
    clear r1 r2 hu
    intro wx hq
    have hs := hq.keeps _ _ hs
    have ht := hq.keeps _ _ ht
    have e1 := hq.keeps _ _ e1
    have e2 := hq.keeps _ _ e2
    have e3 := hq.keeps _ _ e3
    have e4 := hq.keeps _ _ e4
    clear hq
    rw [show ((set.length + m : Nat) : Int) = (set.length : Int) + m from by omega]
    have hw : IntKind.i64.wrap ((set.length : Int) + m - set.length) = m := by rw [IntKind.wrap_i64]; omega
    have hle : (set.length : Int) ≤ set.length + m := by omega
    go_enter Try.func114, Try.ntmps114
    go_wp2_with fail
    go_quiet (fail)
    go_wp2_with fail
    go_ret
    exact ⟨rfl, Qt.of _⟩
end Go.Proofs.Ytggialagjkhdfaa
