/-
  Contracts of functions of the program and of its laws: isSplit, colors.
  Conditions: those that each theorem names.
-/
import Derived.Test.YtggialagjkhdfaaW9
namespace Go.Proofs.Ytggialagjkhdfaa
open Go.RowKit

set_option maxHeartbeats 400000 in
theorem isSplit_any (v : Value) (set : List (List Int)) (split : Int) (w : World) (h1 : Rows2 w v set) :
    Calls Try.prog 53 #[v, .int .i64 split] w fun e w' => e = .returned (.bool (isSet set && inB split 0 set.length)) ∧ Qt w w' := by
  have HC := hid (isValidClauses_any v set w h1)
  obtain ⟨a1, c1, rfl, k1, m1, r1⟩ := h1.form
  clear h1 r1
  go_enter Try.func53, Try.ntmps53
  cases hs : isSet set with
  | true =>
    rw [hs] at HC
    go_wp2_with fail
    refine HC.out.mono ?_
    rintro e w1 ⟨rfl, hq⟩
    go_wp2_with (go_at_call 76; go_must (refine (within_any _ _ _ _).mono ?_; rintro e w2 ⟨rfl, hw⟩; rw [hw]; clear hw))
    go_ret
    exact ⟨rfl, hq⟩
  | false =>
    rw [hs] at HC
    go_wp2_with fail
    refine HC.out.mono ?_
    rintro e w1 ⟨rfl, hq⟩
    go_wp2_with fail
    go_ret
    exact ⟨rfl, hq⟩

set_option maxHeartbeats 400000 in
theorem colors_any (v : Value) (set : List (List Int)) (split : Nat) (w : World) (h1 : Rows2 w v set) (hset : isSet set = true) :
    Calls Try.prog 54 #[v, .int .i64 split] w fun e w' => ∃ u, e = .returned u ∧
      Fresh w.heap.size w' (ints ((List.range (mostS 0 set).toNat).map fun t => paintS split (fun _ => 0) 0 set t)) [u] ∧ Below w.heap.size w w' := by
  have HG := hid fun wx (hq : Qt w wx) => greatest_any v set wx (h1.keep hq.keeps)
  obtain ⟨a1, c1, rfl, k1, m1, r1⟩ := h1.form
  clear h1
  have hlen := set_len hset
  have HS := hid hset
  clear hset
  obtain ⟨i0, hi, hz0, hz1, hz2⟩ := info_parts info_int
  obtain ⟨n, hn⟩ : ∃ n : Nat, mostS 0 set = n := ⟨(mostS 0 set).toNat, by have := set_most HS.out; omega⟩
  have hn12 : n ≤ 12 := by have := set_most HS.out; omega
  have HN := hid hn
  rw [hn, Int.toNat_natCast]
  rw [hn] at HG
  clear hn
  have hmk := fun (wx : World) => run_make (P := Try.prog) wx 24 3 i0 _ Try.underlying24 hi hz0 .i64 .i64 n n (by omega) (by omega) (by rw [hz2]; omega) (by omega)
  simp only [hz1, Nat.mul_one, Int.toNat_natCast] at hmk
  clear hi hz0 hz1 hz2
  go_enter Try.func54, Try.ntmps54
  go_wp2_with fail
  refine (HG.out _ (Qt.refl _)).mono ?_
  rintro e w1 ⟨rfl, hq⟩
  obtain ⟨q, rfl⟩ := hq
  go_wp2
  clear hmk
  go_loopw [16] (fun i wr => ∃ (k : Nat) (f : Nat → Int), k ≤ set.length ∧ i = .int .i64 k ∧ Hid (paintS split (fun _ => 0) 0 set = paintS split f k (set.drop k)) ∧ Hid (∀ t, Colr (f t)) ∧
    MadeRow wr w.heap.size 3 n (fun t => .int .i64 (f t)) ∧ Below w.heap.size w wr) (fun i _ => set.length - (intOf i).toNat)
  case atStart => exact ⟨0, fun _ => 0, Nat.zero_le _, rfl, hid rfl, hid (fun _ => Or.inl rfl), MadeRow.made (w := w.drewN q) _ rfl (fun j => by simp), ((Qt.of q).below _).alloc (Nat.le_refl _) _⟩
  case round =>
    obtain ⟨k, f, hk, rfl, ht, hf, hrow, hbel⟩ := hrel
    by_cases hlt : k < set.length
    · obtain ⟨b, o, u, rfl, e1, hu1⟩ := r1 k hlt
      obtain ⟨a2, c2, rfl, k2, m2, r2⟩ := hu1.form
      have e1 := cell_later hbel e1
      have hmem := hid (set_mem HS.out set[k] (List.getElem_mem _))
      have hgr := hid ((le_mostS set 0).2 set[k] (List.getElem_mem _))
      have hu : Hid (paintS split (fun _ => 0) 0 set = paintS split (paintC (if k < split then 1 else 2) f set[k]) (k + 1) (set.drop (k + 1))) := by
        have := ht.out
        rw [drop_cons hlt, paintS] at this
        exact this
      clear r1 ht hu1 HG
      obtain ⟨wo, rfl⟩ : ∃ wo : World, wo = wr := ⟨_, rfl⟩
      obtain ⟨col, hcol⟩ : ∃ col : Int, col = (if k < split then 1 else 2) := ⟨_, rfl⟩
      have hc3 : Hid (Colr col) := by rw [hcol]; split <;> exact hid (by unfold Colr; omega)
      rw [← hcol] at hu
      have hcase : (decide (split ≤ k) = false ∧ col = 1) ∨ (decide (split ≤ k) = true ∧ col = 2) := by
        by_cases hks : k < split
        · left; exact ⟨by simp; omega, by rw [hcol, if_pos hks]⟩
        · right; exact ⟨by simp; omega, by rw [hcol, if_neg hks]⟩
      clear hcol
      obtain ⟨c0, hc0⟩ : ∃ c0 : Int, Hid (c0 = col) := ⟨col, hid rfl⟩
      rw [← hc0.out] at hu hc3
      rcases hcase with ⟨hks, rfl⟩ | ⟨hks, rfl⟩
      all_goals
        go_wp2
        go_loopw [26] (fun i wr => ∃ (j : Nat) (g : Nat → Int), j ≤ set[k].length ∧ i = .int .i64 j ∧ Hid (paintC c0 f set[k] = paintC c0 g (set[k].drop j)) ∧ Hid (∀ t, Colr (g t)) ∧
          MadeRow wr w.heap.size 3 n (fun t => .int .i64 (g t)) ∧ Below w.heap.size w wr) (fun i _ => set[k].length - (intOf i).toNat)
        case atStart => exact ⟨0, f, Nat.zero_le _, rfl, hid rfl, hf, hrow, hbel⟩
        case round =>
          clear hrow hbel hf
          obtain ⟨j, g, hj, rfl, ht, hf, hrow, hbel⟩ := hrel
          by_cases hlj : j < set[k].length
          · obtain ⟨hi, b2, o2, rfl, e2⟩ := r2 j hlj
            have e2 := cell_later hbel e2
            obtain ⟨m, hm⟩ : ∃ m : Nat, Hid (abs64 set[k][j] = (m : Int) + 1) := ⟨(abs64 set[k][j] - 1).toNat, hid (by have := hmem.out _ (List.getElem_mem hlj); omega)⟩
            have hmn : m < n := by have h1 := hgr.out _ (List.getElem_mem hlj); rw [HN.out, hm.out] at h1; omega
            have hm12 : m < 12 := by have h1 := hmem.out _ (List.getElem_mem hlj); rw [hm.out] at h1; omega
            have hv : Hid (paintC c0 f set[k] = paintC c0 (fun t => if t = m then bits BinOp.or IntKind.i64 (g t) c0 else g t) (set[k].drop (j + 1))) := by
              have := ht.out
              rw [drop_cons hlj, paintC, hm.out] at this
              simpa using hid this
            have e3 := hrow.cell m hmn
            have e4 := hrow.free m
            have HROW := hid hrow
            clear r2 ht hrow
            go_wp2_with (go_at_call 100; go_must (refine (absolute_any _ _ hi).mono ?_; rintro e w1 ⟨rfl, hw⟩; rw [hw, hm.out]; clear hw))
            go_roundw
            case rel =>
              exact ⟨j + 1, _, by omega, by go_num, hv, hid (fun t => by split; exact or_colr (hf.out t) hc3.out; exact hf.out t),
                HROW.out.set m _ _ (fun t => by rw [hc0.out]; by_cases ht : t = m; · rw [if_pos ht, if_pos ht, ht]
                                                · rw [if_neg ht, if_neg ht]), hbel.setCell (Nat.le_refl _) _⟩
            case measure => simp [intOf]; omega
          · have hv : Hid (paintC c0 f set[k] = g) := by
              have := ht.out
              rw [drop_end hlj] at this
              exact hid this
            clear ht
            go_wp2
            go_roundw
            case rel => exact ⟨k + 1, g, by omega, by go_num, by rw [← hv.out]; exact hu, hf, hrow, hbel⟩
            case measure => simp [intOf]; omega
    · go_wp2
      go_ret
      refine ⟨_, rfl, ?_, hbel⟩
      have hfin : paintS split (fun _ => 0) 0 set = f := by rw [ht.out, drop_end hlt, paintS]
      rw [hfin]
      have := Own.ints_made (cap := n) hrow ((List.range n).map fun t => f t) (by simp) (by simp) (by omega) (fun x hx => ?_) (fun j hj => by simp)
      · simpa using this
      · simp only [List.mem_map] at hx
        obtain ⟨t, _, rfl⟩ := hx
        have := hf.out t
        unfold Colr at this; unfold I64; omega
end Go.Proofs.Ytggialagjkhdfaa
