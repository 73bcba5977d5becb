/-
  Sorting few ints by variable: Go's own slices.SortFunc, walked.
  Conditions: those that each theorem names.
-/
import Derived.Test.YtggialagjkhdfaaW21
import Derived.Test.YtggialagjkhdfaaP17
import Derived.RegionTactic
import Derived.BigRegion
namespace Go.Proofs.Ytggialagjkhdfaa
open Go.RowKit

set_option maxHeartbeats 400000 in
theorem compareInt_any (x y : Int) (w : World) :
    Calls Try.prog 111 #[.int .i64 x, .int .i64 y] w fun e w' => e = .returned (.int .i64 (cmpI x y)) ∧ w' = w := by
  have hx : (x != x) = false := by simp
  have hy : (y != y) = false := by simp
  go_enter Try.func111, Try.ntmps111
  go_wp2
  all_goals (go_ret; refine ⟨ret_int ?_, rfl⟩; unfold cmpI; first | (rw [if_pos (by omega)]; done) | (rw [if_neg (by omega), if_pos (by omega)]; done) | (rw [if_neg (by omega), if_neg (by omega)]; done))

set_option maxHeartbeats 400000 in
theorem byVariable_any (x y : Int) (w : World) (hx : I64 x) (hy : I64 y) :
    Calls Try.prog 67 #[.int .i64 x, .int .i64 y] w fun e w' => e = .returned (.int .i64 (cmpI (abs64 x) (abs64 y))) ∧ w' = w := by
  go_enter Try.func67, Try.ntmps67
  go_wp2_with (first | (go_at_call 100; refine (absolute_any _ _ (by assumption)).mono ?_; rintro e w' ⟨rfl, hw⟩; rw [hw]; clear hw) | (go_at_call 111; refine (compareInt_any _ _ _).mono ?_; rintro e w' ⟨rfl, hw⟩; rw [hw]; clear hw))
  go_ret
  exact ⟨rfl, rfl⟩

/-- The cells of a row of ints that may be written. -/
def IntRow (w : World) (b o : Nat) (e : TypeId) (xs : List Int) : Prop := ∃ cells, w.heap[b]? = some (.cells cells e (0, 0)) ∧ ∀ j (hj : j < xs.length), cells[o + j]? = some (.int .i64 xs[j])
theorem IntRow.cell {w : World} {b o : Nat} {e : TypeId} {xs : List Int} (h : IntRow w b o e xs) (j : Nat) (hj : j < xs.length) : w.cell? ⟨b, o + j, none⟩ = some (.int .i64 xs[j]) := by
  obtain ⟨cells, h1, h2⟩ := h
  rw [cell_block h1, h2 j hj]
theorem IntRow.free {w : World} {b o : Nat} {e : TypeId} {xs : List Int} (h : IntRow w b o e xs) (j : Nat) : w.frozen? ⟨b, j, none⟩ = false := by
  obtain ⟨cells, h1, _⟩ := h
  simp [World.frozen?, h1]
theorem IntRow.set {w : World} {b o : Nat} {e : TypeId} {xs : List Int} (h : IntRow w b o e xs) (i : Nat) (hi : i < xs.length) (v : Int) : IntRow (w.setCell ⟨b, o + i, none⟩ (.int .i64 v)) b o e (xs.set i v) := by
  obtain ⟨cells, h1, h2⟩ := h
  refine ⟨cells.setIfInBounds (o + i) (.int .i64 v), by simp [World.setCell, Array.getElem?_modify, h1], fun j hj => ?_⟩
  have hsz : o + i < cells.size := (Array.getElem?_eq_some_iff.1 (h2 i hi)).1
  rw [List.length_set] at hj
  rw [Array.getElem?_setIfInBounds, List.getElem_set]
  by_cases hij : i = j
  · subst hij; simp [hsz]
  · rw [if_neg (by omega), if_neg hij, h2 j hj]
theorem IntRow.drewN {w : World} {b o : Nat} {e : TypeId} {xs : List Int} (h : IntRow w b o e xs) (n : Nat) : IntRow (w.drewN n) b o e xs := h

theorem swap_list (A : List Int) (y x : Int) (R : List Int) : ((A ++ [y] ++ x :: R).set (A.length + 1) y).set A.length x = A ++ x :: (y :: R) := by
  simp
set_option maxRecDepth 100000 in
set_option maxHeartbeats 1000000 in
theorem insertionSort_any (b o cap : Nat) (e : TypeId) (xs : List Int) (w : World) (h1 : IntRow w b o e xs) (hx : ∀ x ∈ xs, I64 x) (hc : xs.length ≤ cap) (hl : xs.length ≤ 1048576) :
    Calls Try.prog 122 #[.slice (some ⟨b, o, none⟩) xs.length cap, .int .i64 0, .int .i64 xs.length, .func (.func 67) #[] #[]] w fun e' w' => e' = .returned (.tuple #[]) ∧ IntRow w' b o e (sorted [] xs) ∧ Writes [b] w w' := by
  have HX := hid hx
  clear hx
  by_cases hlen : xs.length = 0
  · have : xs = [] := List.eq_nil_of_length_eq_zero hlen
    subst this
    go_enter Try.func122, Try.ntmps122
    go_wp2_with fail
    refine wp_loop_rounds 1 ?_
    rw [rounds_succ]
    go_wp2
    go_end0
    exact ⟨rfl, h1, Writes.refl _ _⟩
  · go_enter Try.func122, Try.ntmps122
    go_wp2_with fail
    go_loopw [8] (fun i wr => ∃ (k : Nat) (acc : List Int), 1 ≤ k ∧ k ≤ xs.length ∧ i = .int .i64 k ∧ Hid (acc.length = k ∧ Asc acc ∧ (∀ x ∈ acc, I64 x) ∧ sorted [] xs = sorted acc (xs.drop k)) ∧ IntRow wr b o e (acc ++ xs.drop k) ∧ Writes [b] w wr) (fun i _ => xs.length - (intOf i).toNat)
    case atStart =>
      match xs, hlen with
      | x :: xs, _ =>
        refine ⟨1, [x], Nat.le_refl _, by simp, rfl, hid ⟨rfl, by simp [Asc], fun y hy => HX.out y (by simp at hy; simp [hy]), by simp [sorted, insA]⟩, by simpa using h1, Writes.refl _ _⟩
    case round =>
      obtain ⟨k, acc, hk1, hk, rfl, hA, hrow, hw⟩ := hrel
      by_cases hlt : k < xs.length
      · obtain ⟨hal, hasc, hab, hst⟩ := hA.out
        have hu : Hid (sorted [] xs = sorted (insA xs[k] acc) (xs.drop (k + 1))) := hid (by rw [hst, drop_cons hlt, sorted])
        have HI := hid (HX.out xs[k] (List.getElem_mem _))
        clear hA h1
        obtain ⟨wo, rfl⟩ : ∃ wo : World, wo = wr := ⟨_, rfl⟩
        have HA := hid (And.intro hal (And.intro hasc hab))
        have hrow0 : IntRow wo b o e (acc ++ xs[k] :: ([] ++ xs.drop (k + 1))) := by rw [List.nil_append, ← drop_cons hlt]; exact hrow
        have HR0 := hid hrow0
        have HW0 := hid hw
        clear hal hasc hab hst hrow hrow0 hw
        go_wp2_with fail
        go_loopw [9] (fun i wr => ∃ (j : Nat) (A B : List Int), j ≤ k ∧ i = .int .i64 j ∧ Hid (A.length = j ∧ A ++ B = acc ∧ ∀ b, B.head? = some b → abs64 xs[k] < abs64 b) ∧ IntRow wr b o e (A ++ xs[k] :: (B ++ xs.drop (k + 1))) ∧ Writes [b] w wr) (fun i _ => (intOf i).toNat)
        case atStart => exact ⟨k, acc, [], Nat.le_refl _, rfl, hid ⟨HA.out.1, by simp, by simp⟩, HR0.out, HW0.out⟩
        case round =>
          obtain ⟨j, A, B, hj, rfl, hB, hrow, hw⟩ := hrel
          go_wp2_with fail
          by_cases hj0 : j = 0
          · subst hj0
            go_quiet (fail)
            go_wp2_with fail
            obtain ⟨hal, hasc, hab⟩ := HA.out
            obtain ⟨hAj, hAB, hBx⟩ := hB.out
            have hA0 : A = [] := List.eq_nil_of_length_eq_zero hAj
            subst hA0
            have hins : insA xs[k] acc = xs[k] :: B := by rw [← hAB]; exact insA_split xs[k] [] B (by simp) hBx
            go_roundw
            case rel =>
              refine ⟨k + 1, xs[k] :: B, by omega, by omega, by go_num, hid ⟨by rw [← hins, insA_len, hal], by rw [← hins]; exact insA_asc _ _ hasc, ?_, by rw [hu.out, hins]⟩, by simpa using hrow.drewN nq, hw.drewN nq⟩
              rw [← hins]; intro z hz
              rcases (insA_mem _ _ _).1 hz with rfl | hz
              · exact HI.out
              · exact hab z hz
            case measure => simp [intOf]; omega
          · obtain ⟨A', y, rfl⟩ : ∃ A' y, A = A' ++ [y] := ⟨A.dropLast, A.getLast (by intro h; rw [h] at hB; have := hB.out.1; simp at this; omega), (List.dropLast_concat_getLast _).symm⟩
            have hA' : A'.length + 1 = j := by have := hB.out.1; simpa using this
            obtain ⟨jm, hjm⟩ : ∃ jm, A'.length = jm := ⟨_, rfl⟩
            rw [hjm] at hA'
            have hwr : IntKind.i64.wrap ((j : Int) - 1) = (jm : Int) := by rw [IntKind.wrap_i64]; omega
            have c0 : wr.cell? ⟨b, o + jm, none⟩ = some (.int .i64 y) := by
              have := hrow.cell jm (by simp; omega)
              rw [this]; simp [← hjm]
            have c1 : wr.cell? ⟨b, o + j, none⟩ = some (.int .i64 xs[k]) := by
              have := hrow.cell j (by simp; omega)
              rw [this]; simp [← hA', ← hjm]
            have hy : I64 y := HA.out.2.2 y (by rw [← hB.out.2.1]; simp)
            have hx' := HI.out
            obtain ⟨x, hx⟩ : ∃ x, Hid (xs[k] = x) := ⟨_, hid rfl⟩
            rw [hx.out] at c1 hx'
            have hjk : (j : Int) < xs.length := by omega
            have hj1 : jm < xs.length := by omega
            have hj3 : (0 : Int) < (j : Int) := by omega
            have hj4 : decide ((0 : Int) < (j : Int)) = true := decide_eq_true hj3
            have hj5 : 0 < j := by omega
            have hj6 : decide (0 < j) = true := decide_eq_true hj5
            have HROW := hid hrow
            have hrow' := HROW
            have HL := hid hA'
            have HJ := hid hjm
            clear hrow hA' hjm
            by_cases hcmp : abs64 x < abs64 y
            · have hd : decide (cmpI (abs64 x) (abs64 y) < 0) = true := decide_eq_true (cmpI_neg.2 hcmp)
              go_quiet (first | (go_at_call 67; exact Calls.quiet_of_same (byVariable_any _ _ _ (by assumption) (by assumption))))
              go_wp2_with fail
              have R0 : IntRow (wr.drewN (nq + 1)) b o e (A' ++ [y] ++ xs[k] :: (B ++ xs.drop (k + 1))) := HROW.out
              have hj' := HJ.out
              have hl' := HL.out
              have R1 := R0.set j (by simp; omega) y
              have f0 := R0.free (o + j)
              have d0 : (wr.drewN (nq + 1)).cell? ⟨b, o + jm, none⟩ = some (.int .i64 y) := c0
              have d1 : (wr.drewN (nq + 1)).cell? ⟨b, o + j, none⟩ = some (.int .i64 x) := c1
              have f1 := R1.free (o + jm)
              have d2 : ((wr.drewN (nq + 1)).setCell ⟨b, o + j, none⟩ (.int .i64 y)).cell? ⟨b, o + jm, none⟩ = some (.int .i64 y) := by
                have := R1.cell jm (by simp; omega)
                rw [this]; simp [List.getElem_set, ← HJ.out]
              have HR1 := hid R1
              have fw := hrow'.out.free (o + j)
              have fw2 := hrow'.out.free (o + jm)
              clear R1 R0 hj' hl'
              go_region
              go_wp2_with fail
              go_roundw
              case rel =>
                refine ⟨jm, A', y :: B, by have := HL.out; omega, by go_num, hid ⟨HJ.out, by have := hB.out.2.1; simpa using this, by intro b' hb'; simp at hb'; subst hb'; rw [hx.out]; exact hcmp⟩, ?_, ?_⟩
                · have h2 := HR1.out.set jm (by have := HJ.out; simp; omega) x
                  rw [hx.out] at h2
                  have h3 := swap_list A' y x (B ++ xs.drop (k + 1))
                  rw [HJ.out, HL.out] at h3
                  rw [h3] at h2
                  rw [hx.out]
                  exact h2
                · exact ((hw.drewN (nq + 1)).trans (Writes.setCell (by simp) _)).trans (Writes.setCell (by simp) _)
              case measure => simp [intOf]; have := HL.out; omega
            · have hd : decide (cmpI (abs64 x) (abs64 y) < 0) = false := decide_eq_false (fun h => hcmp (cmpI_neg.1 h))
              go_quiet (first | (go_at_call 67; exact Calls.quiet_of_same (byVariable_any _ _ _ (by assumption) (by assumption))))
              go_wp2_with fail
              obtain ⟨hal, hasc, hab⟩ := HA.out
              obtain ⟨hAj, hAB, hBx⟩ := hB.out
              have hins : insA xs[k] acc = (A' ++ [y]) ++ xs[k] :: B := by
                rw [← hAB]
                refine insA_split xs[k] _ B ?_ hBx
                intro a ha
                rw [hx.out]
                have hp : Asc ((A' ++ [y]) ++ B) := by rw [hAB]; exact hasc
                unfold Asc at hp
                rw [List.append_assoc, List.pairwise_append] at hp
                rcases List.mem_append.1 ha with ha | ha
                · have := hp.2.2 a ha y (by simp); omega
                · simp at ha; subst ha; omega
              go_roundw
              case rel =>
                refine ⟨k + 1, (A' ++ [y]) ++ xs[k] :: B, by omega, by omega, by go_num, hid ⟨by rw [← hins, insA_len, hal], by rw [← hins]; exact insA_asc _ _ hasc, ?_, by rw [hu.out, hins]⟩, by simpa using HROW.out.drewN nq, hw.drewN nq⟩
                rw [← hins]; intro z hz
                rcases (insA_mem _ _ _).1 hz with rfl | hz
                · exact HI.out
                · exact hab z hz
              case measure => simp [intOf]; omega
      · go_wp2_with fail
        obtain ⟨hal, hasc, hab, hst⟩ := hA.out
        have hdr : xs.drop k = [] := List.drop_of_length_le (by omega)
        go_end0
        refine ⟨rfl, ?_, hw⟩
        rw [hst, hdr, sorted]
        simpa [hdr] using hrow
end Go.Proofs.Ytggialagjkhdfaa
