/-
  Contracts of the laws' functions on steps of a refutation.
  Conditions: those that each theorem names.
-/
import Derived.Test.YtggialagjkhdfaaW13
import Derived.Test.YtggialagjkhdfaaFill
import Derived.StillTailTactics
namespace Go.Proofs.Ytggialagjkhdfaa
open Go.RowKit

/-- A step of a refutation. -/
structure PStep where
  left : Int
  right : Int
  pivot : Int
  clause : List Int

def PStep.toD (s : PStep) : D := .st [.int s.left, .int s.right, .int s.pivot, ints s.clause]
def steps (ss : List PStep) : D := .sl 4 (ss.map PStep.toD)
def Steps (w : World) (v : Value) (ss : List PStep) : Prop := Rep w (steps ss) [v]
theorem Steps.keep {w w' : World} {v : Value} {ss : List PStep} (h : Steps w v ss) (k : Keeps w w') : Steps w' v ss := Rep.keep k _ _ h

theorem PStep.cells {w : World} {s : PStep} {vs : List Value} (h : Rep w s.toD vs) : ∃ u, vs = [.int .i64 s.left, .int .i64 s.right, .int .i64 s.pivot, u] ∧ I64 s.left ∧ I64 s.right ∧ I64 s.pivot ∧ Ints w u s.clause := by
  simp only [PStep.toD, Rep, RepFs] at h
  obtain ⟨v1, v2, rfl, ⟨rfl, h1⟩, v3, v4, rfl, ⟨rfl, h2⟩, v5, v6, rfl, ⟨rfl, h3⟩, v7, v8, rfl, h4, rfl⟩ := h
  have h4' := h4
  obtain ⟨ao, cap, h5, _⟩ := h4
  subst h5
  exact ⟨_, rfl, h1, h2, h3, h4'⟩

theorem Steps.form {w : World} {v : Value} {ss : List PStep} (h : Steps w v ss) :
    ∃ ao cap, v = .slice ao ss.length cap ∧ ss.length ≤ cap ∧ cap ≤ 9223372036854775807 ∧ ∀ i (hi : i < ss.length), ∃ b o u, ao = some ⟨b, o, none⟩ ∧
      w.cell? ⟨b, o + i * 4, none⟩ = some (.int .i64 ss[i].left) ∧ w.cell? ⟨b, o + i * 4 + 1, none⟩ = some (.int .i64 ss[i].right) ∧ w.cell? ⟨b, o + i * 4 + 2, none⟩ = some (.int .i64 ss[i].pivot) ∧ w.cell? ⟨b, o + i * 4 + 3, none⟩ = some u ∧
      I64 ss[i].left ∧ I64 ss[i].right ∧ I64 ss[i].pivot ∧ Ints w u ss[i].clause := by
  obtain ⟨ao, cap, h1, h2, h3, h4⟩ := h
  rw [List.length_map] at h1 h2
  refine ⟨ao, cap, by simpa using h1, h2, h3, fun i hi => ?_⟩
  rcases h4 with h4 | ⟨b, o, h4, h5⟩
  · simp at h4; subst h4; simp at hi
  · obtain ⟨vs, _, e2, e3⟩ := h5.at i (by simpa using hi)
    rw [List.getElem_map] at e3
    obtain ⟨u, rfl, g1, g2, g3, g4⟩ := PStep.cells e3
    exact ⟨b, o, u, h4, by simpa using e2 0 _ rfl, e2 1 _ rfl, e2 2 _ rfl, e2 3 _ rfl, g1, g2, g3, g4⟩

set_option maxHeartbeats 400000 in
theorem szPropStep_any (x y z : Value) (u : Value) (c : List Int) (left : Int) (w : World) (h1 : Ints w u c) (hl : -1 ≤ left) (hl2 : left ≤ 1048576) :
    Calls Try.prog 80 #[.agg #[x, y, z, u], .int .i64 left] w fun e w' => e = .returned (.int .i64 (if left - c.length < 0 then -1 else left - c.length)) ∧ Below w.heap.size w w' := by
  obtain ⟨a1, c1, rfl, k1, m1, -⟩ := h1.form
  clear h1
  have HB := hid ((Below.refl w.heap.size w).alloc (Nat.le_refl _) (.cells #[x, y, z, .slice a1 c.length c1] 86))
  go_enter Try.func80, Try.ntmps80
  by_cases hneg : left - c.length < 0
  · go_wp2_with (go_at_call 47; go_must (refine (szIntS_any _ _ _ _ _ (by omega) (by omega) (by omega)).mono ?_; rintro e w' ⟨rfl, rfl⟩; rw [if_pos hneg]))
    go_ret
    exact ⟨rfl, HB.out⟩
  · go_wp2_with (go_at_call 47; go_must (refine (szIntS_any _ _ _ _ _ (by omega) (by omega) (by omega)).mono ?_; rintro e w' ⟨rfl, rfl⟩; rw [if_neg hneg]))
    go_ret
    exact ⟨rfl, HB.out⟩

def szSteps (left : Int) (ss : List PStep) : Int := szRows left (ss.map (·.clause))

set_option maxRecDepth 100000 in
set_option maxHeartbeats 400000 in
theorem szPropStepS_any (v : Value) (ss : List PStep) (left : Int) (w : World) (h1 : Steps w v ss) (hl : 0 ≤ left) (hl2 : left ≤ 1048576) :
    Calls Try.prog 33 #[v, .int .i64 left] w fun e w' => e = .returned (.int .i64 (szSteps left ss)) ∧ Below w.heap.size w w' := by
  obtain ⟨a1, c1, rfl, k1, m1, r1⟩ := h1.form
  clear h1
  go_enter Try.func33, Try.ntmps33
  by_cases hlen : left - ss.length < 0
  · go_wp2
    go_ret
    exact ⟨ret_int (by unfold szSteps szRows; rw [List.length_map, if_pos (by omega)]), Below.refl _ _⟩
  · have H0 : Hid (szSteps left ss = szGo (left - ss.length) (ss.map (·.clause))) := by unfold szSteps szRows; rw [List.length_map]; exact hid (if_neg hlen)
    go_wp2
    go_loopw [1, 5] (fun l i wr => ∃ (k : Nat) (z : Int), k ≤ ss.length ∧ i = .int .i64 k ∧ l = .int .i64 z ∧ 0 ≤ z ∧ z ≤ 1048576 ∧ Hid (szSteps left ss = szGo z ((ss.drop k).map (·.clause))) ∧ Below w.heap.size w wr) (fun _ i _ => ss.length - (intOf i).toNat)
    case atStart => exact ⟨0, _, Nat.zero_le _, rfl, rfl, by omega, by omega, H0, Below.refl _ w⟩
    case round =>
      obtain ⟨k, z, hk, rfl, rfl, hz, hz2, ht, hb⟩ := hrel
      by_cases hlt : k < ss.length
      · obtain ⟨b, o, u, rfl, e1, e2, e3, e4, -, -, -, hc⟩ := r1 k hlt
        have e1 := cell_later hb e1
        have e2 := cell_later hb e2
        have e3 := cell_later hb e3
        have e4 := cell_later hb e4
        have hc := hc.keep (Keeps.of_below hb)
        have HB := hid hb
        have hu : Hid (szSteps left ss = if z - ss[k].clause.length < 0 then -1 else szGo (z - ss[k].clause.length) ((ss.drop (k + 1)).map (·.clause))) := by
          have := ht.out
          rw [drop_cons hlt, List.map_cons, szGo] at this
          exact this
        clear r1 ht H0 hb
        go_wp2_with fail
        refine (szPropStep_any _ _ _ _ _ _ _ hc (by omega) (by omega)).mono ?_
        rintro e w1 ⟨rfl, hb1⟩
        have HB1 := hid (HB.out.trans (hb1.mono HB.out.size))
        clear hb1
        by_cases hneg : z - ss[k].clause.length < 0
        · rw [if_pos hneg]
          go_wp2_with fail
          go_ret
          exact ⟨ret_int (by rw [hu.out, if_pos hneg]), HB1.out⟩
        · rw [if_neg hneg]
          go_wp2_with fail
          go_roundw
          case rel => exact ⟨k + 1, z - ss[k].clause.length, by omega, by go_num, rfl, by omega, by omega, hid (by rw [hu.out, if_neg (by omega)]), HB1.out⟩
          case measure => simp [intOf]; omega
      · go_wp2
        go_ret
        refine ⟨ret_int ?_, hb⟩
        rw [ht.out, drop_end hlt]; rfl

theorem info_step : (Try.prog.info? 89).map (fun i => (i.zero, i.size, i.bytes)) = some (some (.agg #[.int .i64 0, .int .i64 0, .int .i64 0, .slice none 0 0]), 4, 48) := by kernel_rfl

set_option maxRecDepth 100000 in
set_option maxHeartbeats 400000 in
theorem toPropStep_any (x y z : Int) (u : Value) (c : List Int) (w : World) (h1 : Ints w u c) (hsz : c.length ≤ 16777216) :
    Calls Try.prog 83 #[.agg #[.int .i64 x, .int .i64 y, .int .i64 z, u]] w fun e w' => ∃ r, e = .returned (.agg #[.int .i64 x, .int .i64 y, .int .i64 z, r]) ∧ Fresh w.heap.size w' (ints c) [r] ∧ Below w.heap.size w w' := by
  have HI := hid fun wx (hb : Below w.heap.size w wx) => h1.keep (Keeps.of_below hb)
  obtain ⟨a1, c1, rfl, k1, m1, -⟩ := h1.form
  clear h1
  go_enter Try.func83, Try.ntmps83
  go_wp2_with fail
  have hb0 : Below w.heap.size w (((w.alloc (.cells #[.int .i64 x, .int .i64 y, .int .i64 z, .slice a1 c.length c1] 86)).alloc (.cells #[.int .i64 0, .int .i64 0, .int .i64 0, .slice none 0 0] 89)).alloc (.cells #[.int .i64 x, .int .i64 y, .int .i64 z, .slice none 0 0] 89)) :=
    (((Below.refl _ _).alloc (Nat.le_refl _) _).alloc (by simp) _).alloc (by simp; omega) _
  refine (toIntS_any _ c _ (HI.out _ hb0) hsz).mono ?_
  rintro e w1 ⟨r, rfl, hf, hb⟩
  obtain ⟨ar, cr, rfl, -⟩ := (show Ints w1 r c from hf.rep).form
  have c20 : w1.cell? ⟨w.heap.size + 2, 0, none⟩ = some (.int .i64 x) := cell_later hb (by go_simp)
  have c21 : w1.cell? ⟨w.heap.size + 2, 1, none⟩ = some (.int .i64 y) := cell_later hb (by go_simp)
  have c22 : w1.cell? ⟨w.heap.size + 2, 2, none⟩ = some (.int .i64 z) := cell_later hb (by go_simp)
  have c23 : w1.cell? ⟨w.heap.size + 2, 3, none⟩ = some (.slice none 0 0) := cell_later hb (by go_simp)
  have c10 : w1.cell? ⟨w.heap.size + 1, 0, none⟩ = some (.int .i64 0) := cell_later hb (by go_simp)
  have c11 : w1.cell? ⟨w.heap.size + 1, 1, none⟩ = some (.int .i64 0) := cell_later hb (by go_simp)
  have c12 : w1.cell? ⟨w.heap.size + 1, 2, none⟩ = some (.int .i64 0) := cell_later hb (by go_simp)
  have c13 : w1.cell? ⟨w.heap.size + 1, 3, none⟩ = some (.slice none 0 0) := cell_later hb (by go_simp)
  have f2 : ∀ j, w1.frozen? ⟨w.heap.size + 2, j, none⟩ = false := fun j => (hb.frozen (p := ⟨w.heap.size + 2, j, none⟩) (by simp)).trans (by go_simp)
  have f1 : ∀ j, w1.frozen? ⟨w.heap.size + 1, j, none⟩ = false := fun j => (hb.frozen (p := ⟨w.heap.size + 1, j, none⟩) (by simp)).trans (by go_simp)
  have HF := hid hf
  have HB := hid (hb0.trans (hb.mono (by simp; omega)))
  have hsz1 : w.heap.size + 3 ≤ w1.heap.size := by have := hb.size; simp at this; omega
  have HS := hid hsz1
  clear hb0 hb hf hsz1
  go_wp2_with fail
  have hfr := HF.out
  simp only [World.size_alloc] at hfr
  refine bodyPost_ret (v := .agg #[.int .i64 x, .int .i64 y, .int .i64 z, .slice ar c.length cr]) (by simp [results, Try.results83, go_sem, c10, c11, c12, c13]) rfl ⟨_, rfl, ?_, ?_⟩
  · exact ((((((hfr.setCell (by simp) _).setCell (by simp) _).setCell (by simp) _).setCell (by simp) _).setCell (by simp) _)).mono (by omega)
  · exact (((((HB.out.setCell (by simp; omega) _).setCell (by simp) _).setCell (by simp) _).setCell (by simp) _).setCell (by simp) _)

theorem Fresh.step {lo : Nat} {w : World} {s : PStep} {u : Value} (h : Fresh lo w (ints s.clause) [u]) (h1 : I64 s.left) (h2 : I64 s.right) (h3 : I64 s.pivot) :
    Fresh lo w s.toD [.int .i64 s.left, .int .i64 s.right, .int .i64 s.pivot, u] := by
  obtain ⟨fp, g1, g2, g3⟩ := h
  refine ⟨fp, ?_, g2, g3⟩
  simp only [PStep.toD, Own, OwnF]
  exact ⟨[[.int .i64 s.left], [.int .i64 s.right], [.int .i64 s.pivot], [u]], [[], [], [], fp], rfl, by simp, _, _, _, _, rfl, rfl, ⟨rfl, h1, rfl⟩, _, _, _, _, rfl, rfl, ⟨rfl, h2, rfl⟩, _, _, _, _, rfl, rfl, ⟨rfl, h3, rfl⟩, _, _, _, _, rfl, rfl, g1, rfl, rfl⟩

set_option maxRecDepth 100000 in
set_option maxHeartbeats 400000 in
theorem toPropStepS_any (v : Value) (ss : List PStep) (w : World) (h1 : Steps w v ss) (hsz : ss.length ≤ 16777216) (hrow : ∀ s ∈ ss, s.clause.length ≤ 16777216) :
    Calls Try.prog 35 #[v] w fun e w' => ∃ u, e = .returned u ∧ Fresh w.heap.size w' (steps ss) [u] ∧ Below w.heap.size w w' := by
  obtain ⟨a1, c1, rfl, k1, m1, r1⟩ := h1.form
  clear h1
  obtain ⟨i0, hi, hz0, hz1, hz2⟩ := info_parts info_step
  have hmk := fun (wx : World) => run_make (P := Try.prog) wx 47 89 i0 _ Try.underlying47 hi hz0 .i64 .i64 ss.length ss.length (by omega) (by omega) (by rw [hz2]; omega) (by omega)
  simp only [hz1, Int.toNat_natCast] at hmk
  have HR := hid hrow
  clear hrow hi hz0 hz1 hz2
  go_enter Try.func35, Try.ntmps35
  go_wp2
  clear hmk
  go_loopw [4] (fun i wr => ∃ k : Nat, k ≤ ss.length ∧ i = .int .i64 k ∧ Filling (w.heap.size + 1) wr w.heap.size 89 ss.length 4 ((ss.take k).map PStep.toD) ∧ Below w.heap.size w wr) (fun i _ => ss.length - (intOf i).toNat)
  case atStart => exact ⟨0, Nat.zero_le _, rfl, Filling.start, (Below.refl _ _).alloc (Nat.le_refl _) _⟩
  case round =>
    obtain ⟨k, hk, rfl, hrow, hbel⟩ := hrel
    by_cases hlt : k < ss.length
    · obtain ⟨b, o, u, rfl, e1, e2, e3, e4, i1, i2, i3, hc⟩ := r1 k hlt
      have e1 := cell_later hbel e1
      have e2 := cell_later hbel e2
      have e3 := cell_later hbel e3
      have e4 := cell_later hbel e4
      have HC := hid (toPropStep_any ss[k].left ss[k].right ss[k].pivot u ss[k].clause wr (hc.keep (Keeps.of_below hbel)) (HR.out _ (List.getElem_mem _)))
      have I1 := hid i1
      have I2 := hid i2
      have I3 := hid i3
      obtain ⟨v0, g0⟩ := hrow.cell (k * 4) (by omega)
      obtain ⟨v1, g1⟩ := hrow.cell (k * 4 + 1) (by omega)
      obtain ⟨v2, g2⟩ := hrow.cell (k * 4 + 2) (by omega)
      obtain ⟨v3, g3⟩ := hrow.cell (k * 4 + 3) (by omega)
      have HROW := hid hrow
      have HB := hid hbel
      clear r1 hc i1 i2 i3 hrow hbel
      go_wp2_with fail
      refine HC.out.mono ?_
      rintro e w1 ⟨r, rfl, hfr, hb1⟩
      obtain ⟨ar, cr, rfl, -⟩ := (show Ints w1 r ss[k].clause from hfr.rep).form
      have g0 := cell_later hb1 g0
      have g1 := cell_later hb1 g1
      have g2 := cell_later hb1 g2
      have g3 := cell_later hb1 g3
      have f0 : ∀ j, w1.frozen? ⟨w.heap.size, j, none⟩ = false := fun j => (hb1.frozen (p := ⟨w.heap.size, j, none⟩) HROW.out.lt).trans (HROW.out.free j)
      have hlen : ((ss.take k).map PStep.toD).length = k := by simp; omega
      have R := hid (Filling.push HROW.out (by rw [hlen]; exact hlt) (by omega) (by have := HB.out.size; have := HROW.out.lt; omega) hb1 (Fresh.step hfr I1.out I2.out I3.out) rfl)
      rw [hlen] at R
      have HB1 := hid (HB.out.trans (hb1.mono HB.out.size))
      clear hb1 hfr hlen HC
      go_wp2_with fail
      go_roundw
      case rel =>
        refine ⟨k + 1, by omega, by go_num, ?_, ?_⟩
        · rw [List.take_succ_eq_append_getElem hlt, List.map_append]
          exact R.out
        · exact putCells_below (Nat.le_refl _) [.int .i64 ss[k].left, .int .i64 ss[k].right, .int .i64 ss[k].pivot, .slice ar ss[k].clause.length cr] (k * 4) w1 HB1.out
      case measure => simp [intOf]; omega
    · go_wp2
      go_ret
      refine ⟨_, rfl, ?_, hbel⟩
      have hk' : k = ss.length := by omega
      subst hk'
      rw [List.take_length] at hrow
      have := hrow.done (cap := ss.length) (by simp) (by omega) (by omega)
      rwa [List.length_map] at this

set_option maxRecDepth 100000 in
set_option maxHeartbeats 400000 in
theorem eqPropStep_same (x y z : Int) (u1 u2 : Value) (c : List Int) (w : World) (h1 : Ints w u1 c) (h2 : Ints w u2 c) :
    Calls Try.prog 87 #[.agg #[.int .i64 x, .int .i64 y, .int .i64 z, u1], .agg #[.int .i64 x, .int .i64 y, .int .i64 z, u2]] w fun e w' => e = .returned (.bool true) ∧ Below w.heap.size w w' := by
  have HI := hid fun wx (hb : Below w.heap.size w wx) => And.intro (h1.keep (Keeps.of_below hb)) (h2.keep (Keeps.of_below hb))
  obtain ⟨a1, c1, rfl, k1, m1, -⟩ := h1.form
  obtain ⟨a2, c2, rfl, k2, m2, -⟩ := h2.form
  clear h1 h2
  have hb0 : Below w.heap.size w ((w.alloc (.cells #[.int .i64 x, .int .i64 y, .int .i64 z, .slice a1 c.length c1] 89)).alloc (.cells #[.int .i64 x, .int .i64 y, .int .i64 z, .slice a2 c.length c2] 89)) :=
    ((Below.refl _ _).alloc (Nat.le_refl _) _).alloc (by simp) _
  have HE := hid (eqIntS_any _ _ c c _ (HI.out _ hb0).1 (HI.out _ hb0).2)
  have HB := hid hb0
  clear hb0
  have hx : ((x : Int) != x) = false := by simp
  have hy : ((y : Int) != y) = false := by simp
  have hz : ((z : Int) != z) = false := by simp
  go_enter Try.func87, Try.ntmps87
  go_wp2_with fail
  refine HE.out.mono ?_
  rintro e w1 ⟨rfl, hq⟩
  rw [beq_self_eq_true]
  go_wp2_with fail
  go_ret
  exact ⟨rfl, HB.out.trans (hq.below _)⟩

set_option maxRecDepth 100000 in
set_option maxHeartbeats 400000 in
theorem eqPropStepS_same (v1 v2 : Value) (ss : List PStep) (w : World) (h1 : Steps w v1 ss) (h2 : Steps w v2 ss) :
    Calls Try.prog 37 #[v1, v2] w fun e w' => e = .returned (.bool true) ∧ Below w.heap.size w w' := by
  obtain ⟨a1, c1, rfl, k1, m1, r1⟩ := h1.form
  obtain ⟨a2, c2, rfl, k2, m2, r2⟩ := h2.form
  clear h1 h2
  have hne : ((ss.length : Int) != ss.length) = false := by simp
  go_enter Try.func37, Try.ntmps37
  go_wp2
  go_loopw [5] (fun i wr => ∃ k : Nat, k ≤ ss.length ∧ i = .int .i64 k ∧ Below w.heap.size w wr) (fun i _ => ss.length - (intOf i).toNat)
  case atStart => exact ⟨0, Nat.zero_le _, rfl, Below.refl _ w⟩
  case round =>
    obtain ⟨k, hk, rfl, hb⟩ := hrel
    by_cases hlt : k < ss.length
    · obtain ⟨b, o, u, rfl, e1, e2, e3, e4, -, -, -, hc⟩ := r1 k hlt
      obtain ⟨b', o', u', rfl, e1', e2', e3', e4', -, -, -, hc'⟩ := r2 k hlt
      have e1 := cell_later hb e1
      have e2 := cell_later hb e2
      have e3 := cell_later hb e3
      have e4 := cell_later hb e4
      have e1' := cell_later hb e1'
      have e2' := cell_later hb e2'
      have e3' := cell_later hb e3'
      have e4' := cell_later hb e4'
      have HC := hid fun n => eqPropStep_same ss[k].left ss[k].right ss[k].pivot u u' ss[k].clause (wr.drewN n) ((hc.keep (Keeps.of_below hb)).keep (Keeps.drewN wr n)) ((hc'.keep (Keeps.of_below hb)).keep (Keeps.drewN wr n))
      have HB := hid hb
      clear r1 r2 hb hc hc'
      go_wp2_with fail
      go_still_tail 8, (by kernel_rfl)
      change wpList _ _ _ _ _ (wr.drewN 1)
      go_wp2_with fail
      refine (HC.out 1).mono ?_
      rintro e w1 ⟨rfl, hb1⟩
      have HB1 := hid ((below_drewN HB.out 1).trans (hb1.mono HB.out.size))
      clear hb1
      go_wp2_with fail
      go_roundw
      case rel => exact ⟨k + 1, by omega, by go_num, HB1.out⟩
      case measure => simp [intOf]; omega
    · go_wp2_with fail
      go_ret
      exact ⟨rfl, hb⟩

/-- The fields of an owned row of steps. -/
def StepRow (w : World) (b o : Nat) (e : TypeId) (us : List Value) (fps : List (List Nat)) (ss : List PStep) : Prop :=
  us.length = ss.length ∧ fps.length = ss.length ∧ ∃ cells, w.heap[b]? = some (.cells cells e (0, 0)) ∧ ∀ i (hi : i < ss.length) (h1 : i < us.length) (h2 : i < fps.length),
    cells[o + i * 4]? = some (.int .i64 ss[i].left) ∧ cells[o + i * 4 + 1]? = some (.int .i64 ss[i].right) ∧ cells[o + i * 4 + 2]? = some (.int .i64 ss[i].pivot) ∧ cells[o + i * 4 + 3]? = some us[i] ∧
    I64 ss[i].left ∧ I64 ss[i].right ∧ I64 ss[i].pivot ∧ Own w (ints ss[i].clause) [us[i]] fps[i]

theorem own_cells {w : World} {s : PStep} {vs : List Value} {fp : List Nat} (h : Own w s.toD vs fp) : ∃ u, vs = [.int .i64 s.left, .int .i64 s.right, .int .i64 s.pivot, u] ∧ I64 s.left ∧ I64 s.right ∧ I64 s.pivot ∧ Own w (ints s.clause) [u] fp := by
  simp only [PStep.toD, Own, OwnF] at h
  obtain ⟨vss, fps, rfl, rfl, a1, b1, c1, d1, rfl, rfl, ⟨rfl, h1, rfl⟩, a2, b2, c2, d2, rfl, rfl, ⟨rfl, h2, rfl⟩, a3, b3, c3, d3, rfl, rfl, ⟨rfl, h3, rfl⟩, a4, b4, c4, d4, rfl, rfl, h4, rfl, rfl⟩ := h
  have h4' := h4
  obtain ⟨ao, cap, h5, _⟩ := h4
  subst h5
  exact ⟨_, rfl, h1, h2, h3, by simpa using h4'⟩

theorem own_steps {w : World} {v : Value} {ss : List PStep} {fp : List Nat} (h : Own w (steps ss) [v] fp) :
    ∃ ao cap, v = .slice ao ss.length cap ∧ ss.length ≤ cap ∧ cap ≤ 9223372036854775807 ∧ ((ss = [] ∧ fp = []) ∨ ∃ b o e us fps, ao = some ⟨b, o, none⟩ ∧ fp = b :: List.flatten fps ∧ StepRow w b o e us fps ss) := by
  obtain ⟨ao, cap, h1, h2, h3, h4⟩ := h
  rw [List.length_map] at h1 h2
  refine ⟨ao, cap, by simpa using h1, h2, h3, ?_⟩
  rcases h4 with h4 | ⟨b, o, cells, e, vss, fps, r1, r2, r3, r4, r5⟩
  · left; exact ⟨by simpa using h4.1, h4.2⟩
  · right
    obtain ⟨l1, l2, l3⟩ := OwnL.lengths _ vss fps r5
    rw [List.length_map] at l1 l2
    refine ⟨b, o, e, vss.map (fun vs => vs.getD 3 undef), fps, r1, r2, by simpa using l1, l2, cells, r3, fun i hi h1 h2 => ?_⟩
    rw [List.length_map] at h1
    have hO := OwnL.at _ vss fps r5 i (by simpa using hi) h1 h2
    rw [List.getElem_map] at hO
    obtain ⟨u, hu, g1, g2, g3, g4⟩ := own_cells hO
    have hc : ∀ j x, vss[i][j]? = some x → cells[o + i * 4 + j]? = some x := fun j x hx => by
      have := row_cells r3 r4 l3 i h1 j x hx
      rwa [cell_block r3] at this
    rw [List.getElem_map, hu]
    rw [hu] at hc
    exact ⟨by simpa using hc 0 _ rfl, hc 1 _ rfl, hc 2 _ rfl, hc 3 _ rfl, g1, g2, g3, g4⟩

theorem flatten_len {α : Type} (sz : Nat) : ∀ (vss : List (List α)), (∀ vs ∈ vss, vs.length = sz) → (List.flatten vss).length = vss.length * sz
  | [], _ => by simp
  | vs :: vss, h => by
    rw [List.flatten_cons, List.length_append, h vs (by simp), flatten_len sz vss fun v hv => h v (by simp [hv]), List.length_cons, Nat.succ_mul]
    omega

theorem steps_own {w : World} {b o cap : Nat} {e : TypeId} {us : List Value} {fps : List (List Nat)} {ss : List PStep} (h : StepRow w b o e us fps ss) (hc : ss.length ≤ cap) (hm : cap ≤ 9223372036854775807) :
    Own w (steps ss) [.slice (some ⟨b, o, none⟩) ss.length cap] (b :: List.flatten fps) := by
  obtain ⟨h1, h2, cells, h3, h4⟩ := h
  obtain ⟨vss, hv⟩ : ∃ vss : List (List Value), vss = (List.range ss.length).map fun i => [.int .i64 (ss.getD i ⟨0, 0, 0, []⟩).left, .int .i64 (ss.getD i ⟨0, 0, 0, []⟩).right, .int .i64 (ss.getD i ⟨0, 0, 0, []⟩).pivot, us.getD i undef] := ⟨_, rfl⟩
  have hvl : vss.length = ss.length := by rw [hv]; simp
  have hvi : ∀ i (hi : i < ss.length) (hx : i < us.length) (h' : i < vss.length), vss[i] = [.int .i64 ss[i].left, .int .i64 ss[i].right, .int .i64 ss[i].pivot, us[i]] := fun i hi hx h' => by
    simp only [hv, List.getElem_map, List.getElem_range, List.getD, List.getElem?_eq_getElem hi, List.getElem?_eq_getElem hx, Option.getD_some]
  have hv4 : ∀ vs ∈ vss, vs.length = 4 := fun vs hvs => by
    subst hv
    obtain ⟨i, _, rfl⟩ := List.mem_map.1 hvs
    rfl
  have hlen : (List.flatten vss).length = ss.length * 4 := by
    rw [flatten_len 4 vss hv4, hvl]
  refine ⟨_, cap, by rw [List.length_map], by rw [List.length_map]; exact hc, hm, Or.inr ⟨b, o, cells, e, vss, fps, rfl, rfl, h3, ?_, ?_⟩⟩
  · rw [List.length_map]
    apply List.ext_getElem?
    intro j
    rw [List.getElem?_take]
    by_cases hj : j < ss.length * 4
    · rw [if_pos hj, List.getElem?_drop, Array.getElem?_toList]
      obtain ⟨i, r, hr, rfl⟩ : ∃ i r, r < 4 ∧ j = i * 4 + r := ⟨j / 4, j % 4, by omega, by omega⟩
      have hi : i < ss.length := by omega
      have hat := flatten_at vss hv4 i (by omega) r hr
      rw [hat, hvi i hi (by omega) (by omega)]
      obtain ⟨g0, g1, g2, g3, _⟩ := h4 i hi (by omega) (by omega)
      rw [← Nat.add_assoc]
      match r, hr with
      | 0, _ => exact g0
      | 1, _ => exact g1
      | 2, _ => exact g2
      | 3, _ => exact g3
    · rw [if_neg hj, List.getElem?_eq_none (by omega)]
  · have hl : ∀ (m : Nat) (ss : List PStep) (vss : List (List Value)) (fps : List (List Nat)), ss.length = m → vss.length = m → fps.length = m → (∀ i (hi : i < ss.length) (h1 : i < vss.length) (h2 : i < fps.length), vss[i].length = 4 ∧ Own w ss[i].toD vss[i] fps[i]) →
        OwnL w 4 (ss.map PStep.toD) vss fps := by
      intro m
      induction m with
      | zero =>
        intro ss vss fps e1 e2 e3 _
        rw [List.eq_nil_of_length_eq_zero e1, List.eq_nil_of_length_eq_zero e2, List.eq_nil_of_length_eq_zero e3]
        exact ⟨rfl, rfl⟩
      | succ m ih =>
        intro ss vss fps e1 e2 e3 h
        match ss, vss, fps, e1, e2, e3 with
        | s :: ss, vs :: vss, fp :: fps, e1, e2, e3 =>
          have h0 := h 0 (by simp) (by simp) (by simp)
          exact ⟨vs, vss, fp, fps, rfl, rfl, h0.1, h0.2, ih ss vss fps (by simpa using e1) (by simpa using e2) (by simpa using e3) fun i hi h1 h2 => by
            exact h (i + 1) (by simpa using hi) (by simpa using h1) (by simpa using h2)⟩
    refine hl ss.length ss vss fps rfl hvl h2 fun i hi h1' h2' => ?_
    rw [hvi i hi (by omega) h1']
    obtain ⟨_, _, _, _, i1, i2, i3, ho⟩ := h4 i hi (by omega) h2'
    refine ⟨rfl, ?_⟩
    simp only [PStep.toD, Own, OwnF]
    exact ⟨[[.int .i64 ss[i].left], [.int .i64 ss[i].right], [.int .i64 ss[i].pivot], [us[i]]], [[], [], [], fps[i]], rfl, by simp, _, _, _, _, rfl, rfl, ⟨rfl, i1, rfl⟩, _, _, _, _, rfl, rfl, ⟨rfl, i2, rfl⟩, _, _, _, _, rfl, rfl, ⟨rfl, i3, rfl⟩, _, _, _, _, rfl, rfl, ho, rfl, rfl⟩

/-- Marked steps, and the number behind them. -/
def mark1 (k : Int) (s : PStep) : PStep := ⟨k, k + 1, k + 2, upFrom (k + 3) s.clause.length⟩
def markK (k : Int) : List PStep → Int
  | [] => k
  | s :: ss => markK (k + 3 + s.clause.length) ss
def markSteps (k : Int) : List PStep → List PStep
  | [] => []
  | s :: ss => mark1 k s :: markSteps (k + 3 + s.clause.length) ss
theorem markSteps_len : ∀ (ss : List PStep) (k : Int), (markSteps k ss).length = ss.length
  | [], _ => rfl
  | s :: ss, k => by simp [markSteps, markSteps_len ss]
theorem markSteps_snoc (s : PStep) : ∀ (ss : List PStep) (k : Int), markSteps k (ss ++ [s]) = markSteps k ss ++ [mark1 (markK k ss) s]
  | [], _ => rfl
  | x :: ss, k => by simp only [List.cons_append, markSteps, markK, markSteps_snoc s ss]
theorem markK_snoc (s : PStep) : ∀ (ss : List PStep) (k : Int), markK k (ss ++ [s]) = markK k ss + 3 + s.clause.length
  | [], _ => rfl
  | x :: ss, k => by simp only [List.cons_append, markK, markK_snoc s ss]
theorem markK_ge : ∀ (ss : List PStep) (k : Int), k ≤ markK k ss
  | [], k => Int.le_refl k
  | s :: ss, k => by rw [markK]; have := markK_ge ss (k + 3 + s.clause.length); omega
theorem markK_drop (ss : List PStep) (k : Int) (j : Nat) : markK (markK k (ss.take j)) (ss.drop j) = markK k ss := by
  induction j generalizing ss k with
  | zero => simp [markK]
  | succ j ih =>
    cases ss with
    | nil => simp [markK]
    | cons s ss => simp only [List.take_succ_cons, List.drop_succ_cons, markK, ih]
/-- The first j of the steps marked. -/
def markTo (k : Int) (ss : List PStep) (j : Nat) : List PStep := markSteps k (ss.take j) ++ ss.drop j
theorem markTo_len (k : Int) (ss : List PStep) (j : Nat) : (markTo k ss j).length = ss.length := by simp [markTo, markSteps_len]; omega
theorem markTo_at {k : Int} {ss : List PStep} {j : Nat} (hj : j < ss.length) (i : Nat) (hi : i < (markTo k ss (j + 1)).length) (hi2 : i < (markTo k ss j).length) :
    (markTo k ss (j + 1))[i] = if i = j then mark1 (markK k (ss.take j)) ss[j] else (markTo k ss j)[i] := by
  have hl : (markSteps k (ss.take j)).length = j := by rw [markSteps_len, List.length_take]; omega
  simp only [markTo, List.take_succ_eq_append_getElem hj, markSteps_snoc, List.append_assoc, List.singleton_append]
  rcases Nat.lt_trichotomy i j with h | h | h
  · rw [if_neg (by omega), List.getElem_append_left (by omega), List.getElem_append_left (by omega)]
  · subst h
    rw [if_pos rfl, List.getElem_append_right (by omega)]
    simp [hl]
  · rw [if_neg (by omega), List.getElem_append_right (by omega), List.getElem_append_right (by omega)]
    simp only [hl, List.getElem_drop]
    rw [List.getElem_cons]
    rw [dif_neg (by omega)]
    simp only [List.getElem_drop]
    congr 1
    omega
theorem markTo_self {k : Int} {ss : List PStep} {j : Nat} (hj : j < ss.length) (hi : j < (markTo k ss j).length) : (markTo k ss j)[j] = ss[j] := by
  have hl : (markSteps k (ss.take j)).length = j := by rw [markSteps_len, List.length_take]; omega
  simp only [markTo]
  rw [List.getElem_append_right (by omega)]
  simp [hl]
end Go.Proofs.Ytggialagjkhdfaa
