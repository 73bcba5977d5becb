/-
  Contracts of the reference's functions on propositional clauses.
  Conditions: those that each theorem names.
-/
import Derived.Test.YtggialagjkhdfaaW15
import Derived.Test.YtggialagjkhdfaaApp
import Derived.Test.YtggialagjkhdfaaP16
namespace Go.Proofs.Ytggialagjkhdfaa
open Go.RowKit

set_option maxRecDepth 100000 in
set_option maxHeartbeats 1000000 in
theorem l15Put_any (v : Value) (c : List Int) (x : Int) (w : World) (h1 : Ints w v c) (hx : I64 x) (hlen : c.length ≤ 1048576) :
    Calls Try.prog 71 #[v, .int .i64 x] w fun e w' => ∃ u, e = .returned u ∧ Fresh w.heap.size w' (ints (put x c)) [u] ∧ Below w.heap.size w w' := by
  have HI := hid fun wx (hb : Below w.heap.size w wx) => h1.keep (Keeps.of_below hb)
  obtain ⟨a1, c1, rfl, k1, m1, r1⟩ := h1.form
  clear h1
  go_enter Try.func71, Try.ntmps71
  go_wp2
  go_loopw [5] (fun i wr => ∃ k : Nat, k ≤ c.length ∧ i = .int .i64 k ∧ Hid (∀ j (h : j < c.length), j < k → abs64 c[j] < abs64 x) ∧ Qt w wr) (fun i _ => c.length - (intOf i).toNat)
  case atStart => exact ⟨0, Nat.zero_le _, rfl, hid (fun j _ h => by omega), Qt.refl w⟩
  case round =>
    obtain ⟨k, hk, rfl, ht, hq⟩ := hrel
    by_cases hlt : k < c.length
    · obtain ⟨hi, b, o, rfl, e1⟩ := r1 k hlt
      have e1 := hq.keeps _ _ e1
      clear r1
      by_cases hc : abs64 c[k] < abs64 x
      · go_wp2_with (go_at_call 98; refine (l15Abs_any _ _ (by assumption)).mono ?_; rintro e w' ⟨rfl, hw⟩; rw [hw]; clear hw)
        go_roundw
        case rel =>
          refine ⟨k + 1, by omega, by go_num, hid (fun j h hj => ?_), hq⟩
          by_cases hjk : j = k
          · subst hjk; exact hc
          · exact ht.out j h (by omega)
        case measure => simp [intOf]; omega
      · go_wp2_with (go_at_call 98; refine (l15Abs_any _ _ (by assumption)).mono ?_; rintro e w' ⟨rfl, hw⟩; rw [hw]; clear hw)
        have hsplit := hid (put_split k c hk ht.out (fun _ => Int.not_lt.2 hc))
        have hck : ¬ c1 = k := by omega
        have HQ := hid hq
        have hw0 := hid (hq.below w.heap.size)
        have hz0 : w.heap.size ≤ wr.heap.size := hw0.out.size
        have HT := hid fun wx (hb : Below w.heap.size w wx) => (HI.out wx hb).take k hk
        have HD := hid fun wx (hb : Below w.heap.size w wx) => (HI.out wx hb).drop_at k hk
        have hkc : k ≤ c1 := by omega
        clear ht hq
        go_region_law (first | (refine step_append_ints (base := w.heap.size) rfl (.tmp 22) (.tmp 25) rfl (xs := []) (ys := c.take k) (by first | exact OwnsInts.empty (w := wr) hz0 | exact (OwnsInts.empty (w := wr) hz0).alloc _ | exact OwnsInts.empty' (w := wr.alloc (.cells #[.int .i64 x] 3)) (by simp) (by simp; omega)) rfl (HT.out _ (by first | exact (hw0.out.alloc hz0 _).drew | exact ((hw0.out.alloc hz0 _).alloc (by simp; omega) _).drew)) rfl (by simp; omega) (by simp; omega) ?_; intro v1 w1 hown1 hbel1 hg1; have hB1 := hid (Below.trans (show Below w.heap.size w _ from (by first | exact (hw0.out.alloc hz0 _).drew | exact ((hw0.out.alloc hz0 _).alloc (by simp; omega) _).drew)) hbel1); clear hbel1) | (refine step_append_ints (base := w.heap.size) rfl (.tmp 26) (.tmp 28) rfl (xs := [] ++ c.take k) (ys := [x]) (by first | exact hown1 | exact hown1.alloc _) rfl (by first | exact Ints.one (by simp) hx | exact Ints.one (hg1.cell (by simp) (by simp [Act.eval, Value.ownBlock])) hx) rfl (by simp; omega) (by have := hB1.out.size; first | exact this | (simp; omega)) ?_; intro v2 w2 hown2 hbel2 hg2; have hB2 := hid (Below.trans (show Below w.heap.size w _ from (by first | exact hB1.out | exact hB1.out.alloc hB1.out.size _)) hbel2); clear hbel2) | (refine step_append_ints (base := w.heap.size) rfl (.tmp 29) (.tmp 32) rfl (xs := [] ++ c.take k ++ [x]) (ys := c.drop k) hown2 rfl (HD.out _ hB2.out) rfl (by simp; omega) hB2.out.size ?_; intro v3 w3 hown3 hbel3 hg3; have hB3 := hid (hB2.out.trans hbel3); clear hbel3))
        all_goals
          go_wp2_with fail
          go_ret
          refine ⟨v3, by rfl, ?_, hB3.out⟩
          rw [hsplit.out]
          have := hown3.fresh
          simpa using this
    · have hk' : k = c.length := by omega
      subst hk'
      by_cases hck : c1 = c.length
      · subst hck
        have hsplit := hid (put_split c.length c hk ht.out (fun h => absurd h hlt))
        have HQ := hid hq
        have hw0 := hid (hq.below w.heap.size)
        have hz0 : w.heap.size ≤ wr.heap.size := hw0.out.size
        have HT := hid fun wx (hb : Below w.heap.size w wx) => (HI.out wx hb).take c.length hk
        have HD := hid fun wx (hb : Below w.heap.size w wx) => (show Ints wx (.slice a1 0 0) (c.drop c.length) from by rw [List.drop_length]; exact Ints.nil a1)
        have hkc : c.length ≤ c.length := by omega
        clear ht hq
        go_wp2_with fail
        go_region_law (first | (refine step_append_ints (base := w.heap.size) rfl (.tmp 22) (.tmp 25) rfl (xs := []) (ys := c.take c.length) (by first | exact OwnsInts.empty (w := wr) hz0 | exact (OwnsInts.empty (w := wr) hz0).alloc _ | exact OwnsInts.empty' (w := wr.alloc (.cells #[.int .i64 x] 3)) (by simp) (by simp; omega)) rfl (HT.out _ (by first | exact (hw0.out.alloc hz0 _).drew | exact ((hw0.out.alloc hz0 _).alloc (by simp; omega) _).drew)) rfl (by simp; omega) (by simp; omega) ?_; intro v1 w1 hown1 hbel1 hg1; have hB1 := hid (Below.trans (show Below w.heap.size w _ from (by first | exact (hw0.out.alloc hz0 _).drew | exact ((hw0.out.alloc hz0 _).alloc (by simp; omega) _).drew)) hbel1); clear hbel1) | (refine step_append_ints (base := w.heap.size) rfl (.tmp 26) (.tmp 28) rfl (xs := [] ++ c.take c.length) (ys := [x]) (by first | exact hown1 | exact hown1.alloc _) rfl (by first | exact Ints.one (by simp) hx | exact Ints.one (hg1.cell (by simp) (by simp [Act.eval, Value.ownBlock])) hx) rfl (by simp; omega) (by have := hB1.out.size; first | exact this | (simp; omega)) ?_; intro v2 w2 hown2 hbel2 hg2; have hB2 := hid (Below.trans (show Below w.heap.size w _ from (by first | exact hB1.out | exact hB1.out.alloc hB1.out.size _)) hbel2); clear hbel2) | (refine step_append_ints (base := w.heap.size) rfl (.tmp 29) (.tmp 32) rfl (xs := [] ++ c.take c.length ++ [x]) (ys := c.drop c.length) hown2 rfl (HD.out _ hB2.out) rfl (by simp; omega) hB2.out.size ?_; intro v3 w3 hown3 hbel3 hg3; have hB3 := hid (hB2.out.trans hbel3); clear hbel3))
        all_goals
          go_wp2_with fail
          go_ret
          refine ⟨v3, by rfl, ?_, hB3.out⟩
          rw [hsplit.out]
          have := hown3.fresh
          simpa using this
      · have hcl : c.length ≤ c1 := k1
        have hsplit := hid (put_split c.length c hk ht.out (fun h => absurd h hlt))
        have HQ := hid hq
        have hw0 := hid (hq.below w.heap.size)
        have hz0 : w.heap.size ≤ wr.heap.size := hw0.out.size
        have HT := hid fun wx (hb : Below w.heap.size w wx) => (HI.out wx hb).take c.length hk
        have HD := hid fun wx (hb : Below w.heap.size w wx) => (show Ints wx (.slice (Option.map (fun x => x.add c.length) a1) 0 (c1 - c.length)) (c.drop c.length) from by rw [List.drop_length]; exact Ints.empty _ _ (by omega))
        have hkc : c.length ≤ c1 := by omega
        clear ht hq
        go_wp2_with fail
        go_region_law (first | (refine step_append_ints (base := w.heap.size) rfl (.tmp 22) (.tmp 25) rfl (xs := []) (ys := c.take c.length) (by first | exact OwnsInts.empty (w := wr) hz0 | exact (OwnsInts.empty (w := wr) hz0).alloc _ | exact OwnsInts.empty' (w := wr.alloc (.cells #[.int .i64 x] 3)) (by simp) (by simp; omega)) rfl (HT.out _ (by first | exact (hw0.out.alloc hz0 _).drew | exact ((hw0.out.alloc hz0 _).alloc (by simp; omega) _).drew)) rfl (by simp; omega) (by simp; omega) ?_; intro v1 w1 hown1 hbel1 hg1; have hB1 := hid (Below.trans (show Below w.heap.size w _ from (by first | exact (hw0.out.alloc hz0 _).drew | exact ((hw0.out.alloc hz0 _).alloc (by simp; omega) _).drew)) hbel1); clear hbel1) | (refine step_append_ints (base := w.heap.size) rfl (.tmp 26) (.tmp 28) rfl (xs := [] ++ c.take c.length) (ys := [x]) (by first | exact hown1 | exact hown1.alloc _) rfl (by first | exact Ints.one (by simp) hx | exact Ints.one (hg1.cell (by simp) (by simp [Act.eval, Value.ownBlock])) hx) rfl (by simp; omega) (by have := hB1.out.size; first | exact this | (simp; omega)) ?_; intro v2 w2 hown2 hbel2 hg2; have hB2 := hid (Below.trans (show Below w.heap.size w _ from (by first | exact hB1.out | exact hB1.out.alloc hB1.out.size _)) hbel2); clear hbel2) | (refine step_append_ints (base := w.heap.size) rfl (.tmp 29) (.tmp 32) rfl (xs := [] ++ c.take c.length ++ [x]) (ys := c.drop c.length) hown2 rfl (HD.out _ hB2.out) rfl (by simp; omega) hB2.out.size ?_; intro v3 w3 hown3 hbel3 hg3; have hB3 := hid (hB2.out.trans hbel3); clear hbel3))
        all_goals
          go_wp2_with fail
          go_ret
          refine ⟨v3, by rfl, ?_, hB3.out⟩
          rw [hsplit.out]
          have := hown3.fresh
          simpa using this
end Go.Proofs.Ytggialagjkhdfaa
