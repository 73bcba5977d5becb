/-
  Contracts of the laws' functions that mark steps and look whether the marks are there.
  Conditions: those that each theorem names.
-/
import Derived.Test.YtggialagjkhdfaaW14
namespace Go.Proofs.Ytggialagjkhdfaa
open Go.RowKit

theorem mark1_i64 {k : Int} {s : PStep} (h0 : 0 ≤ k) (h1 : k + 3 + s.clause.length ≤ 1099511627776) : I64 (mark1 k s).left ∧ I64 (mark1 k s).right ∧ I64 (mark1 k s).pivot := by
  simp only [mark1, I64]; omega

set_option maxRecDepth 100000 in
set_option maxHeartbeats 1000000 in
theorem markPropStepS_any (v : Value) (ss : List PStep) (fp : List Nat) (k : Int) (w : World) (h1 : Own w (steps ss) [v] fp) (hn : fp.Nodup) (hk : 0 ≤ k) (hk2 : markK k ss ≤ 1099511627776) :
    Calls Try.prog 40 #[v, .int .i64 k] w fun e w' => e = .returned (.int .i64 (markK k ss)) ∧ Own w' (steps (markSteps k ss)) [v] fp ∧ Writes fp w w' := by
  obtain ⟨a1, c1, rfl, k1, m1, r1⟩ := own_steps h1
  rcases r1 with ⟨rfl, rfl⟩ | ⟨b, o, e, us, fps, rfl, rfl, hrow⟩
  · go_enter Try.func40, Try.ntmps40
    go_wp2
    refine wp_loop_rounds 1 ?_
    rw [rounds_succ]
    go_wp2
    go_ret
    exact ⟨ret_int (by simp [markK]), by simpa [markSteps] using h1, Writes.refl _ _⟩
  · clear h1
    rw [List.nodup_cons] at hn
    obtain ⟨hnb, hn⟩ := hn
    have HN := hid hn
    have HNB := hid hnb
    have HK2 := hid hk2
    clear hn hnb hk2
    go_enter Try.func40, Try.ntmps40
    go_wp2
    go_loopw [1, 5] (fun l i wr => ∃ (j : Nat) (z : Int), j ≤ ss.length ∧ i = .int .i64 j ∧ l = .int .i64 z ∧ 0 ≤ z ∧ Hid (z = markK k (ss.take j)) ∧ StepRow wr b o e us fps (markTo k ss j) ∧ Writes (b :: List.flatten fps) w wr) (fun _ i _ => ss.length - (intOf i).toNat)
    case atStart => exact ⟨0, k, Nat.zero_le _, rfl, rfl, hk, hid (by simp [markK]), by simpa [markTo, markSteps] using hrow, Writes.refl _ _⟩
    case round =>
      clear hrow
      obtain ⟨j, z, hj, rfl, rfl, hz, hzk, hrow, hw⟩ := hrel
      by_cases hlt : j < ss.length
      · obtain ⟨l1, l2, cells, hb, hc⟩ := hrow
        have hju : j < us.length := by rw [l1, markTo_len]; exact hlt
        have hjf : j < fps.length := by rw [l2, markTo_len]; exact hlt
        have hjm : j < (markTo k ss j).length := by rw [markTo_len]; exact hlt
        obtain ⟨c0, c1', c2, c3, -, -, -, ho⟩ := hc j hjm hju hjf
        rw [markTo_self hlt hjm] at c0 c1' c2 ho
        have e0 : wr.cell? ⟨b, o + j * 4, none⟩ = some (.int .i64 ss[j].left) := by rw [cell_block hb, c0]
        have e1 : wr.cell? ⟨b, o + j * 4 + 1, none⟩ = some (.int .i64 ss[j].right) := by rw [cell_block hb, c1']
        have e2 : wr.cell? ⟨b, o + j * 4 + 2, none⟩ = some (.int .i64 ss[j].pivot) := by rw [cell_block hb, c2]
        have e3 : wr.cell? ⟨b, o + j * 4 + 3, none⟩ = some us[j] := by rw [cell_block hb, c3]
        have f0 : ∀ t, wr.frozen? ⟨b, t, none⟩ = false := fun t => by simp [World.frozen?, hb]
        have hbound : z + 3 + ss[j].clause.length ≤ 1099511627776 := by
          have h1 := markK_drop ss k j
          rw [← hzk.out, drop_cons hlt, markK] at h1
          have h2 := markK_ge (ss.drop (j + 1)) (z + 3 + ss[j].clause.length)
          have := HK2.out
          omega
        obtain ⟨cells', g1, g2, g3⟩ := putCells_row [.int .i64 z, .int .i64 (z + 1), .int .i64 (z + 2)] (o + j * 4) wr cells hb (by have := (Array.getElem?_eq_some_iff.1 c3).1; simp; omega)
        have hpart := nodup_part HN.out j hjf
        have hnj : ∀ t ∈ fps[j], t ≠ b := fun t ht e => HNB.out (List.mem_flatten.2 ⟨fps[j], List.getElem_mem _, e ▸ ht⟩)
        have ho' : Own (putCells wr b (o + j * 4) [.int .i64 z, .int .i64 (z + 1), .int .i64 (z + 2)]) (ints ss[j].clause) [us[j]] fps[j] := Own.keep _ _ _ ho fun t ht => putCells_other (hnj t ht) _ _ _
        have HC := hid hc
        have HO := hid ho'
        have HG := hid (And.intro g1 (And.intro g2 g3))
        have HW := hid hw
        have HCB := hid hb
        have LL := hid (And.intro l1 l2)
        clear hc ho ho' g1 g2 g3 hw hb c0 c1' c2 c3 l1 l2 hpart hnj
        go_wp2_with fail
        have z2 : z + 1 + 1 = z + 2 := by omega
        have z3 : z + 2 + 1 = z + 3 := by omega
        rw [z2, z3]
        clear z2 z3
        refine (show Calls Try.prog 19 #[us[j], .int .i64 (z + 3)] (putCells wr b (o + j * 4) [.int .i64 z, .int .i64 (z + 1), .int .i64 (z + 2)]) _ from markIntS_any us[j] ss[j].clause fps[j] (z + 3) _ HO.out (by omega) (by omega)).mono ?_
        rintro e' w1 ⟨rfl, ho1, hw1⟩
        have hb1 : w1.heap[b]? = some (.cells cells' e (0, 0)) := (hw1.block b (fun hm => HNB.out (List.mem_flatten.2 ⟨_, List.getElem_mem hjf, hm⟩))).trans HG.out.1
        have R : Hid (StepRow w1 b o e us fps (markTo k ss (j + 1))) := by
          obtain ⟨l1, l2⟩ := LL.out
          refine ⟨by rw [l1, markTo_len, markTo_len], by rw [l2, markTo_len, markTo_len], cells', hb1, fun i hi h1 h2 => ?_⟩
          have him : i < (markTo k ss j).length := by rw [markTo_len] at hi ⊢; exact hi
          rw [markTo_at hlt i hi him]
          obtain ⟨q0, q1, q2, q3, q4, q5, q6, q7⟩ := HC.out i him h1 h2
          have hg := HG.out.2.2
          simp only [List.length_cons, List.length_nil] at hg
          by_cases hij : i = j
          · subst hij
            rw [if_pos rfl, ← hzk.out]
            obtain ⟨m1, m2, m3⟩ := mark1_i64 (k := z) (s := ss[i]) hz (by omega)
            refine ⟨?_, ?_, ?_, ?_, m1, m2, m3, ho1⟩
            · rw [hg, if_pos (by omega)]; simp [mark1]
            · rw [hg, if_pos (by omega), show o + i * 4 + 1 - (o + i * 4) = 1 from by omega]; rfl
            · rw [hg, if_pos (by omega), show o + i * 4 + 2 - (o + i * 4) = 2 from by omega]; rfl
            · rw [hg, if_neg (by omega)]; exact q3
          · rw [if_neg hij]
            refine ⟨?_, ?_, ?_, ?_, q4, q5, q6, ?_⟩
            · rw [hg, if_neg (by omega)]; exact q0
            · rw [hg, if_neg (by omega)]; exact q1
            · rw [hg, if_neg (by omega)]; exact q2
            · rw [hg, if_neg (by omega)]; exact q3
            · refine Own.keep _ _ _ q7 fun t ht => ?_
              have htb : t ≠ b := fun e => HNB.out (List.mem_flatten.2 ⟨fps[i], List.getElem_mem _, e ▸ ht⟩)
              rw [hw1.block t ?_, putCells_other htb]
              intro hm
              rcases Nat.lt_or_gt_of_ne hij with hl | hl
              · exact nodup_part HN.out j hjf t hm (List.mem_flatten.2 ⟨fps[i], by rw [List.mem_take_iff_getElem]; exact ⟨i, by omega, rfl⟩, ht⟩)
              · exact nodup_part HN.out i h2 t ht (List.mem_flatten.2 ⟨fps[j], by rw [List.mem_take_iff_getElem]; exact ⟨j, by omega, rfl⟩, hm⟩)
        have W1 : Hid (Writes (b :: List.flatten fps) w w1) := by
          refine HW.out.trans (Writes.trans (b := putCells wr b (o + j * 4) [.int .i64 z, .int .i64 (z + 1), .int .i64 (z + 2)]) ?_ (hw1.mono fun t ht => List.mem_cons_of_mem _ (List.mem_flatten.2 ⟨_, List.getElem_mem hjf, ht⟩)))
          exact ((Writes.setCell (by simp) _).trans (Writes.setCell (by simp) _)).trans (Writes.setCell (by simp) _)
        clear ho1 hw1 hb1 e0 e1 e2 e3 f0
        go_wp2_with fail
        go_roundw
        case rel =>
          refine ⟨j + 1, z + 3 + ss[j].clause.length, by omega, by go_num, rfl, by omega, hid ?_, R.out, W1.out⟩
          rw [List.take_succ_eq_append_getElem hlt, markK_snoc, hzk.out]
        case measure => simp [intOf]; omega
      · go_wp2_with fail
        go_ret
        have hj' : j = ss.length := by omega
        subst hj'
        rw [List.take_length] at hzk
        have hmt : markTo k ss ss.length = markSteps k ss := by simp [markTo]
        rw [hmt] at hrow
        refine ⟨ret_int (by rw [hzk.out]), ?_, hw⟩
        have := steps_own (cap := c1) hrow (by rw [markSteps_len]; exact k1) m1
        rwa [markSteps_len] at this

theorem markSteps_at {k : Int} {ss : List PStep} {j : Nat} (hj : j < ss.length) (h : j < (markSteps k ss).length) : (markSteps k ss)[j] = mark1 (markK k (ss.take j)) ss[j] := by
  induction ss generalizing k j with
  | nil => simp at hj
  | cons s ss ih =>
    cases j with
    | zero => rfl
    | succ j => simp only [markSteps, List.getElem_cons_succ, List.take_succ_cons, markK]; exact ih (by simpa using hj) (by simpa [markSteps] using h)

set_option maxRecDepth 100000 in
set_option maxHeartbeats 1000000 in
theorem heldPropStepS_any (v : Value) (ss : List PStep) (k : Int) (w : World) (h1 : Steps w v (markSteps k ss)) (hk : 0 ≤ k) (hk2 : markK k ss ≤ 1099511627776) :
    Calls Try.prog 43 #[v, .int .i64 k] w fun e w' => e = .returned (.int .i64 (markK k ss)) ∧ Qt w w' := by
  obtain ⟨a1, c1, rfl, k1, m1, r1⟩ := h1.form
  clear h1
  rw [markSteps_len] at k1 ⊢
  have HK2 := hid hk2
  clear hk2
  go_enter Try.func43, Try.ntmps43
  go_wp2
  go_loopw [1, 5] (fun l i wr => ∃ (j : Nat) (z : Int), j ≤ ss.length ∧ i = .int .i64 j ∧ l = .int .i64 z ∧ 0 ≤ z ∧ Hid (z = markK k (ss.take j)) ∧ Qt w wr) (fun _ i _ => ss.length - (intOf i).toNat)
  case atStart => exact ⟨0, k, Nat.zero_le _, rfl, rfl, hk, hid (by simp [markK]), Qt.refl _⟩
  case round =>
    obtain ⟨j, z, hj, rfl, rfl, hz, hzk, hq⟩ := hrel
    by_cases hlt : j < ss.length
    · have hjm : j < (markSteps k ss).length := by rw [markSteps_len]; exact hlt
      obtain ⟨b, o, u, rfl, e1, e2, e3, e4, -, -, -, hc⟩ := r1 j hjm
      rw [markSteps_at hlt hjm, ← hzk.out] at e1 e2 e3 hc
      simp only [mark1] at e1 e2 e3 hc
      have e1 := hq.keeps _ _ e1
      have e2 := hq.keeps _ _ e2
      have e3 := hq.keeps _ _ e3
      have e4 := hq.keeps _ _ e4
      have hbound : z + 3 + ss[j].clause.length ≤ 1099511627776 := by
        have h1 := markK_drop ss k j
        rw [← hzk.out, drop_cons hlt, markK] at h1
        have h2 := markK_ge (ss.drop (j + 1)) (z + 3 + ss[j].clause.length)
        have := HK2.out
        omega
      have n1 : (z != z) = false := by simp
      have n2 : (z + 1 != z + 1) = false := by simp
      have n3 : (z + 2 != z + 1 + 1) = false := by simp; omega
      have HC := hid (heldIntS_any u (upFrom (z + 3) ss[j].clause.length) (z + 3) wr (hc.keep hq.keeps) (by omega) (by rw [upFrom_len]; omega))
      rw [heldI_up] at HC
      clear r1 hc
      go_wp2_with fail
      rw [show z + 1 + 1 + 1 = z + 3 from by omega]
      refine HC.out.mono ?_
      rintro e w1 ⟨rfl, hq1⟩
      go_wp2_with fail
      go_roundw
      case rel =>
        refine ⟨j + 1, z + 3 + ss[j].clause.length, by omega, by go_num, rfl, by omega, hid ?_, hq.trans hq1⟩
        rw [List.take_succ_eq_append_getElem hlt, markK_snoc, hzk.out]
      case measure => simp [intOf]; omega
    · go_wp2_with fail
      go_ret
      have hj' : j = ss.length := by omega
      subst hj'
      rw [List.take_length] at hzk
      exact ⟨ret_int (by rw [hzk.out]), hq⟩
end Go.Proofs.Ytggialagjkhdfaa
