/-
  A row of elements that is being filled, element by element, each of sz cells.
  Conditions: none.
-/
import Derived.Test.YtggialagjkhdfaaW6
namespace Go.Proofs.Ytggialagjkhdfaa
open Go.RowKit

/-- Cells written one behind the other. -/
def putCells (w : World) (b : Nat) : Nat → List Value → World
  | _, [] => w
  | o, v :: vs => putCells (w.setCell ⟨b, o, none⟩ v) b (o + 1) vs

theorem putCells_other {b k : Nat} (hk : k ≠ b) : ∀ (vs : List Value) (o : Nat) (w : World), (putCells w b o vs).heap[k]? = w.heap[k]?
  | [], _, _ => rfl
  | v :: vs, o, w => by rw [putCells, putCells_other hk vs, Below.heap_setCell _ _ _ _ hk]
theorem putCells_size {b : Nat} : ∀ (vs : List Value) (o : Nat) (w : World), (putCells w b o vs).heap.size = w.heap.size
  | [], _, _ => rfl
  | v :: vs, o, w => by rw [putCells, putCells_size vs]; simp
theorem putCells_row {b : Nat} {e : TypeId} {fr : Nat × Nat} : ∀ (vs : List Value) (o : Nat) (w : World) (c : Array Value), w.heap[b]? = some (.cells c e fr) → o + vs.length ≤ c.size →
    ∃ c', (putCells w b o vs).heap[b]? = some (.cells c' e fr) ∧ c'.size = c.size ∧ ∀ j, c'[j]? = if o ≤ j ∧ j < o + vs.length then vs[j - o]? else c[j]?
  | [], o, w, c, h, _ => ⟨c, h, rfl, fun j => by rw [if_neg (by simp)]⟩
  | v :: vs, o, w, c, h, hl => by
    simp only [List.length_cons] at hl
    have h1 : (w.setCell ⟨b, o, none⟩ v).heap[b]? = some (.cells (c.setIfInBounds o v) e fr) := by simp [World.setCell, Array.getElem?_modify, h]
    obtain ⟨c', g1, g2, g3⟩ := putCells_row vs (o + 1) _ _ h1 (by simp; omega)
    refine ⟨c', g1, by simpa using g2, fun j => ?_⟩
    rw [g3 j]
    simp only [List.length_cons]
    by_cases h2 : o + 1 ≤ j ∧ j < o + 1 + vs.length
    · rw [if_pos h2, if_pos (by omega)]
      obtain ⟨m, rfl⟩ : ∃ m, j = o + 1 + m := ⟨j - o - 1, by omega⟩
      rw [show o + 1 + m - (o + 1) = m from by omega, show o + 1 + m - o = m + 1 from by omega, List.getElem?_cons_succ]
    · rw [if_neg h2, Array.getElem?_setIfInBounds]
      by_cases h3 : o = j
      · subst h3; rw [if_pos rfl, if_pos (by omega), if_pos (by omega)]; simp
      · rw [if_neg h3, if_neg (by omega)]
theorem putCells_below {b B : Nat} {a : World} (hB : B ≤ b) : ∀ (vs : List Value) (o : Nat) (w : World), Below B a w → Below B a (putCells w b o vs)
  | [], _, _, h => h
  | _ :: vs, _, _, h => putCells_below hB vs _ _ (h.setCell hB _)

/-- The first elements own their data; the blocks lie from lo on and each once. -/
def Filling (lo : Nat) (w : World) (b : Nat) (e : TypeId) (n sz : Nat) (ds : List D) : Prop :=
  ∃ (cells : Array Value) (vss : List (List Value)) (fps : List (List Nat)), w.heap[b]? = some (.cells cells e (0, 0)) ∧ cells.size = n * sz ∧ ds.length ≤ n ∧ cells.toList.take (ds.length * sz) = List.flatten vss ∧
    OwnL w sz ds vss fps ∧ (List.flatten fps).Nodup ∧ ∀ k ∈ List.flatten fps, lo ≤ k

theorem Filling.start {lo : Nat} {w : World} {e : TypeId} {z : Array Value} {n sz : Nat} : Filling lo (w.alloc (.cells (madeCells z (n * sz)) e)) w.heap.size e n sz [] :=
  ⟨_, [], [], heap_alloc_new _ _, size_madeCells _ _, Nat.zero_le _, by simp, by simp [OwnL], List.nodup_nil, by simp⟩
theorem Filling.lt {lo : Nat} {w : World} {b : Nat} {e : TypeId} {n sz : Nat} {ds : List D} (h : Filling lo w b e n sz ds) : b < w.heap.size := by
  obtain ⟨cells, vss, fps, h1, _⟩ := h
  exact (Array.getElem?_eq_some_iff.1 h1).1
theorem Filling.cell {lo : Nat} {w : World} {b : Nat} {e : TypeId} {n sz : Nat} {ds : List D} (h : Filling lo w b e n sz ds) (j : Nat) (hj : j < n * sz) : ∃ v, w.cell? ⟨b, j, none⟩ = some v := by
  obtain ⟨cells, vss, fps, h1, h2, _⟩ := h
  exact ⟨cells[j], by rw [cell_block h1]; simp [show j < cells.size by omega]⟩
theorem Filling.free {lo : Nat} {w : World} {b : Nat} {e : TypeId} {n sz : Nat} {ds : List D} (h : Filling lo w b e n sz ds) (j : Nat) : w.frozen? ⟨b, j, none⟩ = false := by
  obtain ⟨cells, vss, fps, h1, _⟩ := h
  simp [World.frozen?, h1]

theorem Filling.push {lo : Nat} {w w1 : World} {b : Nat} {e : TypeId} {n sz : Nat} {ds : List D} {d : D} {vs : List Value} (h : Filling lo w b e n sz ds) (hlt : ds.length < n) (hb : b < lo) (hlo : lo ≤ w.heap.size)
    (hbel : Below w.heap.size w w1) (hd : Fresh w.heap.size w1 d vs) (hl : vs.length = sz) : Filling lo (putCells w1 b (ds.length * sz) vs) b e n sz (ds ++ [d]) := by
  obtain ⟨cells, vss, fps, h1, h2, h3, h4, h5, h6, h7⟩ := h
  have hold : ∀ k ∈ List.flatten fps, k < w.heap.size := OwnL.lt _ _ _ h5
  obtain ⟨fp, o1, o2, o3⟩ := hd
  have hc : w1.heap[b]? = some (.cells cells e (0, 0)) := (hbel.block b (Array.getElem?_eq_some_iff.1 h1).1).trans h1
  have hmul : ds.length * sz + sz ≤ n * sz := by rw [← Nat.succ_mul]; exact Nat.mul_le_mul_right _ hlt
  obtain ⟨c', g1, g2, g3⟩ := putCells_row vs (ds.length * sz) w1 cells hc (by omega)
  have hne : ∀ k ∈ List.flatten (fps ++ [fp]), k ≠ b := by
    intro k hk
    simp only [List.flatten_append, List.mem_append, List.flatten_cons, List.flatten_nil, List.append_nil] at hk
    rcases hk with hk | hk
    · have := h7 k hk; omega
    · have := o3 k hk; omega
  have hpre : vss.flatten.length = ds.length * sz := by rw [← h4, List.length_take, show cells.toList.length = cells.size from by simp]; omega
  refine ⟨c', vss ++ [vs], fps ++ [fp], g1, by omega, by simp; omega, ?_, ?_, ?_, ?_⟩
  · apply List.ext_getElem?
    intro j
    rw [List.getElem?_take, List.length_append, List.length_cons, List.length_nil, Nat.zero_add, Nat.succ_mul, List.flatten_append, List.flatten_cons, List.flatten_nil, List.append_nil, Array.getElem?_toList, g3 j]
    by_cases hj : j < ds.length * sz + sz
    · rw [if_pos hj]
      by_cases hj2 : ds.length * sz ≤ j
      · rw [if_pos (by omega), List.getElem?_append_right (by omega), hpre]
      · rw [if_neg (by omega), List.getElem?_append_left (by omega), ← h4, List.getElem?_take, if_pos (by omega), Array.getElem?_toList]
    · rw [if_neg hj, List.getElem?_eq_none (by simp only [List.length_append]; omega)]
  · refine OwnL.snoc hl (Own.keep d vs fp o1 fun k hk => putCells_other (hne k (by simp [hk])) _ _ _) ds _ fps (OwnL.keep _ _ _ h5 fun k hk => ?_)
    rw [putCells_other (hne k (by rw [List.flatten_append]; exact List.mem_append_left _ hk)), hbel.block k (hold k hk)]
  · rw [List.flatten_append, List.flatten_cons, List.flatten_nil, List.append_nil, List.nodup_append]
    refine ⟨h6, o2, fun x hx y hy => ?_⟩
    have h1 := hold x hx
    have h2 := o3 y hy
    omega
  · intro k hk
    simp only [List.flatten_append, List.mem_append, List.flatten_cons, List.flatten_nil, List.append_nil] at hk
    rcases hk with hk | hk
    · exact h7 k hk
    · have := o3 k hk; omega

theorem Filling.done {lo : Nat} {w : World} {b cap : Nat} {e : TypeId} {n sz : Nat} {ds : List D} (h : Filling lo w b e n sz ds) (hc : ds.length ≤ cap) (hm : cap ≤ 9223372036854775807) (hb : b < lo) :
    Fresh b w (.sl sz ds) [.slice (some ⟨b, 0, none⟩) ds.length cap] := by
  obtain ⟨cells, vss, fps, h1, h2, h3, h4, h5, h6, h7⟩ := h
  by_cases hne : ds = []
  · exact ⟨[], ⟨_, cap, rfl, hc, hm, Or.inl ⟨hne, rfl⟩⟩, List.nodup_nil, by simp⟩
  · refine ⟨b :: List.flatten fps, ⟨_, cap, rfl, hc, hm, Or.inr ⟨b, 0, cells, e, vss, fps, rfl, rfl, h1, by rw [List.drop_zero]; exact h4, h5⟩⟩, ?_, ?_⟩
    · exact List.nodup_cons.2 ⟨fun hm => by have := h7 b hm; omega, h6⟩
    · intro k hk
      rcases List.mem_cons.1 hk with rfl | hk
      · exact Nat.le_refl _
      · have := h7 k hk; omega

end Go.Proofs.Ytggialagjkhdfaa
