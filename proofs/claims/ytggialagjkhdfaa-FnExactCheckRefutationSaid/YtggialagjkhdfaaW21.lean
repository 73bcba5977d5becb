/-
  Contracts of Go's own slices functions over ints, as this program calls them.
  Conditions: those that each theorem names.
-/
import Derived.Test.YtggialagjkhdfaaW20
import Derived.Lib.AppendZeros
namespace Go.Proofs.Ytggialagjkhdfaa
open Go.RowKit

theorem append_zeros {ops : Array Oper} {rest : List Oper} {o : Oper} {a : Act} {Q : Exit → Act → World → Prop} {w : World} (hgd : o.guard = none) (s x : Operand)
    (ho : o.op = .call { callee := .builtin .append, args := #[s, x], argTypes := #[24, 3] }) (n : Nat) (h0 : 0 < n) (hn : n ≤ 1099511627776) (hs : a.eval s = .slice none 0 0) (hx : a.eval x = .int .i64 n)
    (h : ∀ cap w', n ≤ cap → cap ≤ 9223372036854775807 → OwnsInts w' w.heap.size (.slice (some ⟨w.heap.size, 0, none⟩) 0 cap) [] → Below w.heap.size w w' → wpList Try.prog ops Q rest (a.put o.dst (.slice (some ⟨w.heap.size, 0, none⟩) n cap)) w') :
    wpList Try.prog ops Q (o :: rest) a w := by
  obtain ⟨i0, hi, hz0, hz1, hz2⟩ := info_parts info_int
  refine wpList_plain hgd fun K hK => ?_
  have hrun := Go.Lib.run_append_nil_zeros (P := Try.prog) w 24 3 o.type 3 i0 (.int .i64 0) .i64 .i64 Try.underlying24 Try.underlying3 hi hz0 n h0 (by omega) (by omega) (by rw [hz2]; omega)
  have hge := grownCap_ge w n 0 3
  have hcm := grownCap_le_maxLen w n 0 3 (by unfold maxLen; omega)
  unfold Oper.wp
  simp [execOp, ho, Go.resolve, invoke, builtin, hs, hx, hrun, Result.andThen]
  refine hK _ _ (h _ _ hge (by unfold maxLen at hcm; omega) ⟨⟨by simp, .inr ⟨w.heap.size, _, _, rfl, Nat.le_refl _, heap_alloc_new w.drew _, Nat.zero_le _, hcm, ?_, by simp⟩⟩, by simp⟩ (((Below.refl _ _).drew).alloc (Nat.le_refl _) _))
  simp [size_zeroCells, Value.cells]
  omega

set_option maxRecDepth 100000 in
set_option maxHeartbeats 400000 in
theorem growNil_any (n : Nat) (w : World) (hn : n ≤ 1099511627776) :
    Calls Try.prog 133 #[.slice none 0 0, .int .i64 n] w fun e w' => ∃ u, e = .returned u ∧ OwnsInts w' w.heap.size u [] ∧ Below w.heap.size w w' := by
  obtain ⟨i0, hi, hz0, hz1, hz2⟩ := info_parts info_int
  by_cases h0 : n = 0
  · subst h0
    go_enter Try.func133, Try.ntmps133
    go_wp2_with fail
    go_ret
    exact ⟨_, rfl, OwnsInts.nil _ _, Below.refl _ _⟩
  · have hpos : 0 < n := by omega
    go_enter Try.func133, Try.ntmps133
    go_wp2_with (at_builtin; go_must (refine append_zeros rfl _ _ rfl n hpos hn rfl rfl ?_))
    intro cap w1 hc1 hc2 hown hbel
    have HO := hid hown
    have HB := hid hbel
    clear hown hbel hi hz0 hz1 hz2
    go_wp2_with fail
    go_ret
    exact ⟨_, rfl, HO.out, HB.out⟩

theorem tally_drop (xss : List (List Int)) (k : Nat) (h : k < xss.length) : tally (xss.drop k) = xss[k].length + tally (xss.drop (k + 1)) := by rw [drop_cons h, tally]
theorem tally_flatten : ∀ (xss : List (List Int)), (List.flatten xss).length = tally xss
  | [] => rfl
  | x :: xss => by rw [List.flatten_cons, List.length_append, tally_flatten xss, tally]

set_option maxRecDepth 100000 in
set_option maxHeartbeats 1000000 in
theorem concat_any (v : Value) (xss : List (List Int)) (w : World) (h1 : Rows2 w v xss) (hl : tally xss ≤ 1048576) :
    Calls Try.prog 117 #[v] w fun e w' => ∃ u, e = .returned u ∧ OwnsInts w' w.heap.size u (List.flatten xss) ∧ Below w.heap.size w w' := by
  obtain ⟨a1, c1, rfl, k1, m1, r1⟩ := h1.form
  clear h1
  go_enter Try.func117, Try.ntmps117
  go_wp2_with fail
  go_loopw [3, 11] (fun m i wr => ∃ (k : Nat) (z : Nat), k ≤ xss.length ∧ i = .int .i64 k ∧ m = .int .i64 z ∧ Hid (z + tally (xss.drop k) = tally xss) ∧ Qt w wr) (fun _ i _ => xss.length - (intOf i).toNat)
  case atStart => exact ⟨0, 0, Nat.zero_le _, rfl, rfl, hid (by simp), Qt.refl w⟩
  case round =>
    obtain ⟨k, z, hk, rfl, rfl, ht, hq⟩ := hrel
    by_cases hlt : k < xss.length
    · obtain ⟨b, o, u, rfl, e1, hu1⟩ := r1 k hlt
      obtain ⟨a2, c2, rfl, k2, m2, -⟩ := hu1.form
      have e1 := hq.keeps _ _ e1
      have hu : Hid (z + xss[k].length + tally (xss.drop (k + 1)) = tally xss) := hid (by rw [← ht.out, tally_drop _ _ hlt]; omega)
      have hz : z + xss[k].length ≤ 1048576 := by have := hu.out; omega
      clear r1 ht hu1
      go_wp2_with fail
      go_roundw
      case rel => exact ⟨k + 1, z + xss[k].length, by omega, by go_num, by go_num, hu, hq⟩
      case measure => simp [intOf]; omega
    · have hz : Hid (z = tally xss) := hid (by have := ht.out; rw [drop_end hlt, tally] at this; omega)
      have HQ := hid hq
      have hzz : z ≤ 1048576 := by have := hz.out; omega
      clear ht hq
      go_wp2_with fail
      refine (growNil_any z wr (by omega)).mono ?_
      rintro e w1 ⟨u, rfl, hown, hb⟩
      have HO := hid (show OwnsInts w1 w.heap.size u [] from by
        have hs := (HQ.out.below w.heap.size).size
        refine ⟨⟨hown.1.1, ?_⟩, hown.2⟩
        rcases hown.1.2 with h | ⟨g, cap, cur, g1, g2, g3⟩
        · exact Or.inl h
        · exact Or.inr ⟨g, cap, cur, g1, by omega, g3⟩)
      have HB := hid ((HQ.out.below w.heap.size).trans (hb.mono (HQ.out.below w.heap.size).size))
      clear hown hb
      go_wp2_with fail
      go_loopw [6, 27] (fun out i wr => ∃ (j : Nat), j ≤ xss.length ∧ i = .int .i64 j ∧ OwnsInts wr w.heap.size out (List.flatten (xss.take j)) ∧ Below w.heap.size w wr) (fun _ i _ => xss.length - (intOf i).toNat)
      case atStart => exact ⟨0, Nat.zero_le _, rfl, HO.out, HB.out⟩
      case round =>
        obtain ⟨j, hj, rfl, hown, hbel⟩ := hrel
        by_cases hlj : j < xss.length
        · obtain ⟨b, o, u, rfl, e1, hu1⟩ := r1 j hlj
          have e1 := cell_later hbel e1
          have HU := hid (hu1.keep (Keeps.of_below hbel))
          have HO2 := hid hown
          have HB2 := hid hbel
          have hbound : Hid ((List.flatten (xss.take j)).length + xss[j].length ≤ 1048576) := hid (by
            have h1 := tally_flatten xss
            rw [flatten_split xss j hlj, List.length_append, List.length_append] at h1
            omega)
          clear r1 hu1 hown hbel
          go_wp2_with (at_builtin; go_must (refine append_ints rfl _ _ rfl HO2.out rfl HU.out rfl (by have := hbound.out; omega) HB2.out.size ?_))
          intro v' w6 hown6 hbel6
          have HO6 := hid hown6
          have HB6 := hid (HB2.out.trans hbel6)
          clear hown6 hbel6
          go_wp2_with fail
          go_roundw
          case rel => exact ⟨j + 1, by omega, by go_num, by rw [flatten_take_succ xss j hlj]; exact HO6.out, HB6.out⟩
          case measure => simp [intOf]; omega
        · have hj' : j = xss.length := by omega
          subst hj'
          rw [List.take_length] at hown
          go_wp2_with fail
          go_ret
          exact ⟨_, rfl, hown, hbel⟩

set_option maxHeartbeats 400000 in
theorem indexInt_any (v : Value) (c : List Int) (x : Int) (w : World) (h1 : Ints w v c) :
    Calls Try.prog 121 #[v, .int .i64 x] w fun e w' => e = .returned (.int .i64 (findFrom (fun y => y == x) 0 c)) ∧ Qt w w' := by
  obtain ⟨a1, c1, rfl, k1, m1, r1⟩ := h1.form
  clear h1
  go_enter Try.func121, Try.ntmps121
  go_wp2
  go_loopw [8] (fun i wr => ∃ k : Nat, k ≤ c.length ∧ i = .int .i64 k ∧ Hid (findFrom (fun y => y == x) 0 c = findFrom (fun y => y == x) k (c.drop k)) ∧ Qt w wr) (fun i _ => c.length - (intOf i).toNat)
  case atStart => exact ⟨0, Nat.zero_le _, rfl, rfl, Qt.refl w⟩
  case round =>
    obtain ⟨k, hk, rfl, ht, hq⟩ := hrel
    by_cases hlt : k < c.length
    · obtain ⟨hi, b, o, rfl, e1⟩ := r1 k hlt
      have e1 := hq.keeps _ _ e1
      have hu : Hid (findFrom (fun y => y == x) 0 c = if c[k] == x then (k : Int) else findFrom (fun y => y == x) (k + 1) (c.drop (k + 1))) := by
        have := ht.out
        rw [drop_cons hlt, findFrom] at this
        exact this
      clear r1 ht
      go_wp2
      · rename_i hd
        go_ret
        exact ⟨ret_int (by rw [hu.out, if_pos (by simp at hd; simp [hd])]), hq⟩
      · rename_i hd
        go_roundw
        case rel => exact ⟨k + 1, by omega, by go_num, hid (by rw [hu.out, if_neg (by simp at hd; simp [Ne.symm hd])]; rfl), hq⟩
        case measure => simp [intOf]; omega
    · go_wp2
      go_ret
      exact ⟨ret_int (by rw [ht.out, drop_end hlt]; rfl), hq⟩

theorem any_contains (x : Int) : ∀ (c : List Int), c.any (fun y => y == x) = c.contains x
  | [] => rfl
  | y :: c => by rw [List.any_cons, List.contains_cons, any_contains x c, Bool.beq_comm]

set_option maxHeartbeats 400000 in
theorem containsInt_any (v : Value) (c : List Int) (x : Int) (w : World) (h1 : Ints w v c) :
    Calls Try.prog 106 #[v, .int .i64 x] w fun e w' => e = .returned (.bool (c.contains x)) ∧ Qt w w' := by
  have HC := hid (indexInt_any v c x w h1)
  clear h1
  go_enter Try.func106, Try.ntmps106
  go_wp2_with fail
  refine HC.out.mono ?_
  rintro e w1 ⟨rfl, hq⟩
  go_wp2
  go_ret
  exact ⟨ret_bool (by rw [← any_contains]; exact findFrom_any _ c 0 (by omega)), hq⟩

set_option maxHeartbeats 400000 in
theorem equalInts_any (v1 v2 : Value) (xs ys : List Int) (w : World) (h1 : Ints w v1 xs) (h2 : Ints w v2 ys) :
    Calls Try.prog 86 #[v1, v2] w fun e w' => e = .returned (.bool (xs == ys)) ∧ Qt w w' := by
  obtain ⟨a1, c1, rfl, k1, m1, r1⟩ := h1.form
  obtain ⟨a2, c2, rfl, k2, m2, r2⟩ := h2.form
  clear h1 h2
  by_cases hl : xs.length = ys.length
  · have hne : ((xs.length : Int) != ys.length) = false := by simp [hl]
    have HL := hid hl
    have hl1 : xs.length ≤ ys.length := by omega
    clear hl
    go_enter Try.func86, Try.ntmps86
    go_wp2
    go_loopw [13] (fun i wr => ∃ k : Nat, k ≤ xs.length ∧ i = .int .i64 k ∧ Hid ((xs == ys) = (xs.drop k == ys.drop k)) ∧ Qt w wr) (fun i _ => xs.length - (intOf i).toNat)
    case atStart => exact ⟨0, Nat.zero_le _, rfl, rfl, Qt.refl w⟩
    case round =>
      obtain ⟨k, hk, rfl, ht, n, rfl⟩ := hrel
      by_cases hlt : k < xs.length
      · obtain ⟨-, b, o, rfl, e1⟩ := r1 k hlt
        obtain ⟨-, b', o', rfl, e2⟩ := r2 k (by omega)
        have hu : Hid ((xs == ys) = (xs[k] == ys[k] && xs.drop (k + 1) == ys.drop (k + 1))) := by
          have := ht.out
          rw [List.drop_eq_getElem_cons hlt, List.drop_eq_getElem_cons (by omega : k < ys.length)] at this
          exact this
        clear r1 r2 ht
        go_wp2
        go_quiet (fail)
        go_wp2
        · rename_i hd
          go_ret
          exact ⟨ret_bool (by rw [hu.out]; simp_all), Qt.of2 _ _⟩
        · rename_i hd
          go_roundw
          case rel => exact ⟨k + 1, by omega, by go_num, hid (by rw [hu.out]; simp_all), Qt.of _⟩
          case measure => simp [intOf]; omega
      · go_wp2
        go_ret
        refine ⟨ret_bool ?_, Qt.of _⟩
        rw [ht.out, List.drop_of_length_le (by omega), List.drop_of_length_le (by have := HL.out; omega)]; rfl
  · have hne : ((xs.length : Int) != ys.length) = true := by simp; omega
    have HL := hid hl
    clear hl r1 r2
    go_enter Try.func86, Try.ntmps86
    go_wp2
    go_ret
    refine ⟨ret_bool ?_, Qt.refl _⟩
    symm; rw [beq_eq_false_iff_ne]; intro h; exact HL.out (by rw [h])
end Go.Proofs.Ytggialagjkhdfaa
