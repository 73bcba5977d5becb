/-
  Contracts of functions of the program and of its laws: toIntSS.
  Conditions: those that each theorem names.
-/
import Derived.Test.YtggialagjkhdfaaW5
namespace Go.Proofs.Ytggialagjkhdfaa
open Go.RowKit

/-- An outer row that is being filled: the first k elements own their data, the blocks all from lo on and each once. -/
def FillRow (lo : Nat) (w : World) (b : Nat) (e : TypeId) (n : Nat) (z : Value) (ds : List D) : Prop :=
  ∃ (us : List Value) (fps : List (List Nat)), us.length = ds.length ∧ ds.length ≤ n ∧ MadeRow w b e n (fun j => us.getD j z) ∧
    OwnL w 1 ds (us.map fun u => [u]) fps ∧ (List.flatten fps).Nodup ∧ ∀ k ∈ List.flatten fps, lo ≤ k

theorem FillRow.start {lo : Nat} {w : World} {e : TypeId} {z : Array Value} {n : Nat} (hz : z.size = 1) : FillRow lo (w.alloc (.cells (madeCells z n) e)) w.heap.size e n z[0]! [] :=
  ⟨[], [], rfl, Nat.zero_le _, MadeRow.made _ hz (fun j => by simp), ⟨rfl, rfl⟩, List.nodup_nil, by simp⟩

theorem FillRow.grow {lo : Nat} {w w' : World} {b : Nat} {e : TypeId} {n : Nat} {z : Value} {ds : List D} (h : FillRow lo w b e n z ds) (hb : Below w.heap.size w w') : FillRow lo w' b e n z ds := by
  obtain ⟨us, fps, h1, h2, h3, h4, h5, h6⟩ := h
  refine ⟨us, fps, h1, h2, ?_, OwnL.keep _ _ _ h4 (fun k hk => hb.block k (OwnL.lt _ _ _ h4 k hk)), h5, h6⟩
  obtain ⟨cells, hc, r⟩ := h3
  exact ⟨cells, (hb.block b (Array.getElem?_eq_some_iff.1 hc).1).trans hc, r⟩

theorem FillRow.cell {lo : Nat} {w : World} {b : Nat} {e : TypeId} {n : Nat} {z : Value} {ds : List D} (h : FillRow lo w b e n z ds) (k : Nat) (hk : k < n) (hl : ds.length = k := by simp; omega) : w.cell? ⟨b, k, none⟩ = some z := by
  obtain ⟨us, fps, h1, h2, h3, _⟩ := h
  rw [h3.cell k hk]
  simp [List.getD, List.getElem?_eq_none (show us.length ≤ k by omega)]
theorem FillRow.free {lo : Nat} {w : World} {b : Nat} {e : TypeId} {n : Nat} {z : Value} {ds : List D} (h : FillRow lo w b e n z ds) (k : Nat) : w.frozen? ⟨b, k, none⟩ = false := by
  obtain ⟨us, fps, h1, h2, h3, _⟩ := h
  exact h3.free k
theorem FillRow.lt {lo : Nat} {w : World} {b : Nat} {e : TypeId} {n : Nat} {z : Value} {ds : List D} (h : FillRow lo w b e n z ds) : b < w.heap.size := by
  obtain ⟨us, fps, h1, h2, ⟨cells, hc, _⟩, _⟩ := h
  exact (Array.getElem?_eq_some_iff.1 hc).1

theorem FillRow.push {lo : Nat} {w w1 : World} {b : Nat} {e : TypeId} {n : Nat} {z : Value} {ds : List D} {d : D} {u : Value} (h : FillRow lo w b e n z ds) (hlt : ds.length < n) (hb : b < lo) (hlo : lo ≤ w.heap.size)
    (hbel : Below w.heap.size w w1) (hd : Fresh w.heap.size w1 d [u]) : FillRow lo (w1.setCell ⟨b, ds.length, none⟩ u) b e n z (ds ++ [d]) := by
  have hold : ∀ us fps, OwnL w 1 ds us fps → ∀ k ∈ List.flatten fps, k < w.heap.size := fun us fps h => OwnL.lt _ _ _ h
  obtain ⟨us, fps, g1, g2, g3, g4, g5, g6⟩ := h
  obtain ⟨us', fps', h1, h2, h3, h4, h5, h6⟩ := FillRow.grow ⟨us, fps, g1, g2, g3, g4, g5, g6⟩ hbel
  clear h1 h2 h3 h4 h5 h6 us' fps'
  obtain ⟨fp, o1, o2, o3⟩ := hd
  have hrow : MadeRow w1 b e n (fun j => us.getD j z) := by
    obtain ⟨cells, hc, r⟩ := g3
    exact ⟨cells, (hbel.block b (Array.getElem?_eq_some_iff.1 hc).1).trans hc, r⟩
  have hset : ∀ k, k ≠ b → (w1.setCell ⟨b, ds.length, none⟩ u).heap[k]? = w1.heap[k]? := fun k hk => Below.heap_setCell _ _ _ _ hk
  refine ⟨us ++ [u], fps ++ [fp], by simp [g1], by simp; omega, hrow.set ds.length u _ (fun j => ?_), ?_, ?_, ?_⟩
  · rw [← g1]
    by_cases hj : j = us.length
    · subst hj; simp
    · rw [if_neg hj]
      rcases Nat.lt_or_ge j us.length with hl | hl
      · simp [List.getD, List.getElem?_append_left hl]
      · simp [List.getD, List.getElem?_eq_none (show (us ++ [u]).length ≤ j by simp; omega), List.getElem?_eq_none hl]
  · rw [List.map_append]
    have hne : ∀ k ∈ List.flatten (fps ++ [fp]), k ≠ b := by
      intro k hk
      simp only [List.flatten_append, List.mem_append, List.flatten_cons, List.flatten_nil, List.append_nil] at hk
      rcases hk with hk | hk
      · have := g6 k hk; omega
      · have := o3 k hk; omega
    refine OwnL.snoc rfl (Own.keep d [u] fp o1 fun k hk => hset k (hne k (by simp [hk]))) ds _ fps (OwnL.keep _ _ _ g4 fun k hk => ?_)
    rw [hset k (hne k (by rw [List.flatten_append]; exact List.mem_append_left _ hk)), hbel.block k (hold _ _ g4 k hk)]
  · rw [List.flatten_append, List.flatten_cons, List.flatten_nil, List.append_nil, List.nodup_append]
    refine ⟨g5, o2, fun x hx y hy => ?_⟩
    have h1 := hold _ _ g4 x hx
    have h2 := o3 y hy
    omega
  · intro k hk
    simp only [List.flatten_append, List.mem_append, List.flatten_cons, List.flatten_nil, List.append_nil] at hk
    rcases hk with hk | hk
    · exact g6 k hk
    · have := o3 k hk; omega

theorem FillRow.done {lo : Nat} {w : World} {b cap : Nat} {e : TypeId} {n : Nat} {z : Value} {ds : List D} (h : FillRow lo w b e n z ds) (hc : ds.length ≤ cap) (hm : cap ≤ 9223372036854775807) (hb : b < lo) :
    Fresh b w (.sl 1 ds) [.slice (some ⟨b, 0, none⟩) ds.length cap] := by
  obtain ⟨us, fps, h1, h2, ⟨cells, c1, c2, c3⟩, h4, h5, h6⟩ := h
  by_cases hne : ds = []
  · exact ⟨[], ⟨_, cap, rfl, hc, hm, Or.inl ⟨hne, rfl⟩⟩, List.nodup_nil, by simp⟩
  · refine ⟨b :: List.flatten fps, ⟨_, cap, rfl, hc, hm, Or.inr ⟨b, 0, cells, e, _, fps, rfl, rfl, c1, ?_, h4⟩⟩, ?_, ?_⟩
    · rw [flatten_ones (fun u => u), List.map_id']
      apply List.ext_getElem?
      intro j
      rw [List.getElem?_take]
      simp only [Nat.mul_one, List.drop_zero]
      by_cases hj : j < ds.length
      · rw [if_pos hj]
        have := c3 j (by omega)
        simp only [Array.getElem?_toList, this]
        rw [List.getElem?_eq_getElem (by omega)]
        simp [List.getD, List.getElem?_eq_getElem (show j < us.length by omega)]
      · rw [if_neg hj, List.getElem?_eq_none (by omega)]
    · exact List.nodup_cons.2 ⟨fun hm => by have := h6 b hm; omega, h5⟩
    · intro k hk
      rcases List.mem_cons.1 hk with rfl | hk
      · exact Nat.le_refl _
      · have := h6 k hk; omega

set_option maxHeartbeats 400000 in
theorem toIntSS_any (v : Value) (xss : List (List Int)) (w : World) (h1 : Rows2 w v xss) (hsz : xss.length ≤ 16777216) (hrow : ∀ x ∈ xss, x.length ≤ 16777216) :
    Calls Try.prog 14 #[v] w fun e w' => ∃ u, e = .returned u ∧ Fresh w.heap.size w' (rows xss) [u] ∧ Below w.heap.size w w' := by
  obtain ⟨a1, c1, rfl, k1, m1, r1⟩ := h1.form
  clear h1
  obtain ⟨i0, hi, hz0, hz1, hz2⟩ := info_parts info_ints
  have hmk := fun (wx : World) => run_make (P := Try.prog) wx 22 24 i0 _ Try.underlying22 hi hz0 .i64 .i64 xss.length xss.length (by omega) (by omega) (by rw [hz2]; omega) (by omega)
  simp only [hz1, Nat.mul_one, Int.toNat_natCast] at hmk
  have HR := hid hrow
  clear hrow
  go_enter Try.func14, Try.ntmps14
  go_wp2
  clear hmk
  go_loopw [4] (fun i wr => ∃ k : Nat, k ≤ xss.length ∧ i = .int .i64 k ∧ FillRow (w.heap.size + 1) wr w.heap.size 24 xss.length (.slice none 0 0) ((xss.take k).map ints) ∧ Below w.heap.size w wr) (fun i _ => xss.length - (intOf i).toNat)
  case atStart => exact ⟨0, Nat.zero_le _, rfl, FillRow.start rfl, (Below.refl _ _).alloc (Nat.le_refl _) _⟩
  case round =>
    obtain ⟨k, hk, rfl, hrow, hbel⟩ := hrel
    by_cases hlt : k < xss.length
    · obtain ⟨b, o, u, rfl, e1, hu⟩ := r1 k hlt
      have e1' := cell_later hbel e1
      have hu' := hu.keep (Keeps.of_below hbel)
      have HC := hid (toIntS_any u xss[k] wr hu' (HR.out _ (List.getElem_mem _)))
      clear r1 e1 hu hu'
      have hcell := hrow.cell k hlt
      have hfree := hrow.free k
      have hsize := hrow.lt
      have HROW := hid hrow
      have hbs := hbel.size
      clear hrow
      go_wp2_with fail
      refine HC.out.mono ?_
      rintro e w1 ⟨u1, rfl, hfr, hb1⟩
      obtain ⟨ao1, cap1, rfl, -⟩ := (show Ints w1 u1 xss[k] from hfr.rep).form
      have e2 : w1.cell? ⟨w.heap.size, k, none⟩ = some (.slice none 0 0) := cell_later hb1 hcell
      have e3 : w1.frozen? ⟨w.heap.size, k, none⟩ = false := (hb1.frozen (p := ⟨w.heap.size, k, none⟩) hsize).trans hfree
      have hlen : ((xss.take k).map ints).length = k := by simp; omega
      have R := hid (FillRow.push HROW.out (by rw [hlen]; exact hlt) (by omega) (by omega) hb1 hfr)
      rw [hlen] at R
      have HB := hid ((hbel.trans (hb1.mono hbs)).setCell (p := ⟨w.heap.size, k, none⟩) (Nat.le_refl _) (.slice ao1 xss[k].length cap1))
      clear hcell hfree hlen hbel hb1 hfr hbs hsize hi hz0 hz1 hz2 HR HROW HC
      go_wp2
      go_roundw
      case rel =>
        refine ⟨k + 1, by omega, by go_num, ?_, HB.out⟩
        rw [List.take_succ_eq_append_getElem hlt, List.map_append]
        exact R.out
      case measure => simp [intOf]; omega
    · go_wp2
      go_ret
      refine ⟨_, rfl, ?_, hbel⟩
      have hk' : k = xss.length := by omega
      subst hk'
      rw [List.take_length] at hrow
      have := hrow.done (cap := xss.length) (by simp) (by omega) (by omega)
      rwa [List.length_map] at this
end Go.Proofs.Ytggialagjkhdfaa
