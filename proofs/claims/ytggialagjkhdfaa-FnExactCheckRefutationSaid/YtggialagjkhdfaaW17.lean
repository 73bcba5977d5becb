/-
  Contracts of the reference's functions on refutations.
  Conditions: those that each theorem names.
-/
import Derived.Test.YtggialagjkhdfaaW16
namespace Go.Proofs.Ytggialagjkhdfaa
open Go.RowKit

theorem Fresh.qt {lo : Nat} {w w' : World} {d : D} {vs : List Value} (h : Fresh lo w d vs) (hq : Qt w w') : Fresh lo w' d vs := h.below (hq.below _)

set_option maxRecDepth 100000 in
set_option maxHeartbeats 1600000 in
theorem l15Resolve_any (va vb : Value) (a b : List Int) (v : Int) (w : World) (ha : Ints w va a) (hb : Ints w vb b) (hv : 1 ≤ v) (hv2 : v ≤ 12) (hb12 : ∀ x ∈ b, -12 ≤ x ∧ x ≤ 12) (hla : a.length ≤ 1000) (hlb : b.length ≤ 1000) :
    Calls Try.prog 113 #[va, vb, .int .i64 v] w fun e w' => ∃ u, e = .returned (.tuple #[u, .bool (resolve a b v).isSome]) ∧ Fresh w.heap.size w' (ints ((resolve a b v).getD [])) [u] ∧ Below w.heap.size w w' := by
  have HA := hid fun wx (hb : Below w.heap.size w wx) => ha.keep (Keeps.of_below hb)
  have HB := hid fun wx (hb' : Below w.heap.size w wx) => hb.keep (Keeps.of_below hb')
  obtain ⟨a1, c1, rfl, k1, m1, r1⟩ := ha.form
  obtain ⟨a2, c2, rfl, k2, m2, r2⟩ := hb.form
  have H12 := hid hb12
  have hem : ∀ (wx : World), Below w.heap.size w wx → Fresh w.heap.size (wx.alloc (.cells #[] 3)) (ints []) [.slice (some ⟨wx.heap.size, 0, none⟩) 0 0] :=
    fun wx hb => (OwnsInts.empty hb.size).fresh
  have HEM := hid hem
  clear ha hb hb12 hem
  go_enter Try.func113, Try.ntmps113
  cases hc1 : a.contains v with
  | false =>
    have hr : Hid (resolve a b v = none) := hid (by unfold resolve; rw [hc1]; simp)
    go_wp2_with fail
    refine (l1Has_any _ _ _ _ (HA.out w (Below.refl _ _))).mono ?_
    rintro e w1 ⟨rfl, hq⟩
    rw [hc1]
    go_wp2_with fail
    go_ret2
    refine ⟨_, by rw [hr.out]; rfl, by rw [hr.out]; exact HEM.out w1 (hq.below _), (hq.below _).alloc ((hq.below w.heap.size).size) _⟩
  | true =>
  cases hc2 : b.contains (-v) with
  | false =>
    have hr : Hid (resolve a b v = none) := hid (by unfold resolve; rw [hc2]; simp)
    go_wp2_with fail
    refine (l1Has_any _ _ _ _ (HA.out w (Below.refl _ _))).mono ?_
    rintro e w1 ⟨rfl, hq⟩
    rw [hc1]
    go_wp2_with fail
    refine (l1Has_any _ _ _ _ (HB.out w1 (hq.below _))).mono ?_
    rintro e w2 ⟨rfl, hq2⟩
    rw [hc2]
    have hq := hq.trans hq2
    go_wp2_with fail
    go_ret2
    refine ⟨_, by rw [hr.out]; rfl, by rw [hr.out]; exact HEM.out w2 (hq.below _), (hq.below _).alloc ((hq.below w.heap.size).size) _⟩
  | true =>
    have hr : Hid (resolve a b v = resB (dropV v a) v b) := by unfold resolve; rw [if_pos ⟨hc1, hc2⟩]; exact hid rfl
    go_wp2_with fail
    refine (l1Has_any _ _ _ _ (HA.out w (Below.refl _ _))).mono ?_
    rintro e w1 ⟨rfl, hq⟩
    rw [hc1]
    go_wp2_with fail
    refine (l1Has_any _ _ _ _ (HB.out w1 (hq.below _))).mono ?_
    rintro e w2 ⟨rfl, hq2⟩
    rw [hc2]
    have HQ := hid (hq.trans hq2)
    have HO0 := hid (OwnsInts.empty (w := w2) (base := w.heap.size) (HQ.out.below w.heap.size).size)
    have HB0 := hid ((HQ.out.below w.heap.size).alloc (HQ.out.below w.heap.size).size (.cells #[] 3))
    clear hq hq2 hc1 hc2
    go_wp2_with fail
    go_loopw [8, 9] (fun out i wr => ∃ (k : Nat) (xs : List Int), k ≤ a.length ∧ i = .int .i64 k ∧ OwnsInts wr w.heap.size out xs ∧ xs.length ≤ k ∧ Hid (dropV v a = xs ++ dropV v (a.drop k)) ∧ Below w.heap.size w wr) (fun _ i _ => a.length - (intOf i).toNat)
    case atStart => exact ⟨0, [], Nat.zero_le _, rfl, HO0.out, Nat.le_refl _, hid (by simp), HB0.out⟩
    case round =>
      obtain ⟨k, xs, hk, rfl, hown, hxl, ht, hbel⟩ := hrel
      by_cases hlt : k < a.length
      · obtain ⟨hi, b1, o1, rfl, e1⟩ := r1 k hlt
        have e1 := cell_later hbel e1
        have hu : Hid (dropV v a = xs ++ (if a[k] = v then dropV v (a.drop (k + 1)) else a[k] :: dropV v (a.drop (k + 1)))) := by
          have := ht.out
          rw [drop_cons hlt, dropV] at this
          exact this
        have HO := hid hown
        have HBL := hid hbel
        clear ht r1 r2 hown hbel
        by_cases hav : a[k] = v
        · have hne : (a[k] != v) = false := by simp [hav]
          have HAV := hid hav
          clear hav
          go_wp2_with fail
          go_roundw
          case rel => exact ⟨k + 1, xs, by omega, by go_num, HO.out, by omega, hid (by rw [hu.out, if_pos HAV.out]), HBL.out⟩
          case measure => simp [intOf]; omega
        · have hne : (a[k] != v) = true := by simp [hav]
          have HAV := hid hav
          clear hav
          go_wp2_with (at_builtin; go_must (refine append_int a[k] rfl rfl HO.out rfl rfl hi (by omega) HBL.out.size ?_))
          intro v' w6 hown6 hbel6
          have HO6 := hid hown6
          have HB6 := hid (HBL.out.trans hbel6)
          clear hown6 hbel6
          go_wp2_with fail
          go_roundw
          case rel => exact ⟨k + 1, xs ++ [a[k]], by omega, by go_num, HO6.out, by simp; omega, hid (by rw [hu.out, if_neg HAV.out]; simp), HB6.out⟩
          case measure => simp [intOf]; omega
      · have hd : Hid (dropV v a = xs) := by
          have := ht.out
          rw [drop_end hlt, dropV, List.append_nil] at this
          exact hid this
        rw [hd.out] at hr
        have HF0 := hid hown.fresh
        have HBL := hid hbel
        have hxl2 : xs.length ≤ 1000 := by omega
        clear ht hown hbel r1 hd
        go_wp2_with fail
        go_loopw [8, 10] (fun out i wr => ∃ (k : Nat) (xs : List Int), k ≤ b.length ∧ i = .int .i64 k ∧ Fresh w.heap.size wr (ints xs) [out] ∧ xs.length ≤ 1000 + k ∧ Hid (resolve a b v = resB xs v (b.drop k)) ∧ Below w.heap.size w wr) (fun _ i _ => b.length - (intOf i).toNat)
        case atStart => exact ⟨0, xs, Nat.zero_le _, rfl, HF0.out, by omega, hr, HBL.out⟩
        case round =>
          clear hxl hxl2 HF0 HBL hr
          obtain ⟨j, ys, hj, rfl, hfr, hyl, ht, hbel⟩ := hrel
          by_cases hlj : j < b.length
          · obtain ⟨hi, b2, o2, rfl, e2⟩ := r2 j hlj
            have e2 := cell_later hbel e2
            obtain ⟨hlo, hhi⟩ := H12.out b[j] (List.getElem_mem _)
            have hu : Hid (resolve a b v = if b[j] = -v then resB ys v (b.drop (j + 1)) else if ys.contains b[j] then resB ys v (b.drop (j + 1)) else if ys.contains (-b[j]) then none else resB (put b[j] ys) v (b.drop (j + 1))) := by
              have := ht.out
              rw [drop_cons hlj, resB] at this
              exact this
            have HF := hid hfr
            have HBL := hid hbel
            clear ht r2 hfr hbel
            by_cases h1 : b[j] = -v
            · have hne : (b[j] == -v) = true := by simp [h1]
              have HH := hid h1
              clear h1
              go_wp2_with fail
              go_roundw
              case rel => exact ⟨j + 1, ys, by omega, by go_num, HF.out, by omega, hid (by rw [hu.out, if_pos HH.out]), HBL.out⟩
              case measure => simp [intOf]; omega
            · have hne : (b[j] == -v) = false := by simp [h1]
              have HH := hid h1
              clear h1
              cases h2 : ys.contains b[j] with
              | true =>
                go_wp2_with fail
                refine (l1Has_any _ _ _ _ HF.out.rep).mono ?_
                rintro e w3 ⟨rfl, hq3⟩
                rw [h2]
                go_wp2_with fail
                go_roundw
                case rel => exact ⟨j + 1, ys, by omega, by go_num, HF.out.qt hq3, by omega, hid (by rw [hu.out, if_neg HH.out, if_pos h2]), HBL.out.trans (hq3.below _)⟩
                case measure => simp [intOf]; omega
              | false =>
                cases h3 : ys.contains (-b[j]) with
                | true =>
                  go_wp2_with fail
                  refine (l1Has_any _ _ _ _ HF.out.rep).mono ?_
                  rintro e w3 ⟨rfl, hq3⟩
                  rw [h2]
                  have e2 := hq3.keeps _ _ e2
                  go_wp2_with fail
                  refine (l1Has_any _ _ _ _ (HF.out.qt hq3).rep).mono ?_
                  rintro e w4 ⟨rfl, hq4⟩
                  rw [h3]
                  have HB4 := hid (HBL.out.trans ((hq3.trans hq4).below _))
                  have hr : Hid (resolve a b v = none) := hid (by rw [hu.out, if_neg HH.out, if_neg (by rw [h2]; exact Bool.false_ne_true), if_pos h3])
                  go_wp2_with fail
                  go_ret2
                  refine ⟨_, by rw [hr.out]; rfl, by rw [hr.out]; exact HEM.out w4 HB4.out, HB4.out.alloc HB4.out.size _⟩
                | false =>
                  go_wp2_with fail
                  refine (l1Has_any _ _ _ _ HF.out.rep).mono ?_
                  rintro e w3 ⟨rfl, hq3⟩
                  rw [h2]
                  have e2 := hq3.keeps _ _ e2
                  go_wp2_with fail
                  refine (l1Has_any _ _ _ _ (HF.out.qt hq3).rep).mono ?_
                  rintro e w4 ⟨rfl, hq4⟩
                  rw [h3]
                  have e2 := hq4.keeps _ _ e2
                  have HB4 := hid (HBL.out.trans ((hq3.trans hq4).below _))
                  have HF4 := hid (HF.out.qt (hq3.trans hq4))
                  clear hq3 hq4
                  go_wp2_with fail
                  refine (l15Put_any _ _ _ _ HF4.out.rep hi (by omega)).mono ?_
                  rintro e w5 ⟨u5, rfl, hf5, hb5⟩
                  have HF5 := hid (hf5.mono HB4.out.size)
                  have HB5 := hid (HB4.out.trans (hb5.mono HB4.out.size))
                  clear hf5 hb5
                  go_wp2_with fail
                  go_roundw
                  case rel => exact ⟨j + 1, put b[j] ys, by omega, by go_num, HF5.out, by rw [put_len]; omega, hid (by rw [hu.out, if_neg HH.out, if_neg (by rw [h2]; exact Bool.false_ne_true), if_neg (by rw [h3]; exact Bool.false_ne_true)]), HB5.out⟩
                  case measure => simp [intOf]; omega
          · have hd : Hid (resolve a b v = some ys) := by
              have := ht.out
              rw [drop_end hlj, resB] at this
              exact hid this
            have HF := hid hfr
            have HBL := hid hbel
            clear ht hfr hbel
            go_wp2_with fail
            go_ret2
            exact ⟨_, by rw [hd.out]; rfl, by rw [hd.out]; exact HF.out, HBL.out⟩
end Go.Proofs.Ytggialagjkhdfaa
