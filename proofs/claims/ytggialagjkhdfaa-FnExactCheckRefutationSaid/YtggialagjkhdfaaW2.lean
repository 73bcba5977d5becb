/-
  Contracts of functions of the program and of its laws: toIntS.
  Conditions: those that each theorem names.
-/
import Derived.Test.YtggialagjkhdfaaProg
import Derived.Test.YtggialagjkhdfaaOwn
namespace Go.Proofs.Ytggialagjkhdfaa
open Go.RowKit

theorem info_int : (Try.prog.info? 3).map (fun i => (i.zero, i.size, i.bytes)) = some (some (.int .i64 0), 1, 8) := by kernel_rfl
theorem info_ints : (Try.prog.info? 24).map (fun i => (i.zero, i.size, i.bytes)) = some (some (.slice none 0 0), 1, 24) := by kernel_rfl

/-- A made row, cell by cell. -/
def MadeRow (w : World) (b : Nat) (e : TypeId) (n : Nat) (f : Nat → Value) : Prop :=
  ∃ cells, w.heap[b]? = some (.cells cells e (0, 0)) ∧ cells.size = n ∧ ∀ j, j < n → cells[j]? = some (f j)

theorem MadeRow.cell {w : World} {b n : Nat} {e : TypeId} {f : Nat → Value} (h : MadeRow w b e n f) (j : Nat) (hj : j < n) : w.cell? ⟨b, j, none⟩ = some (f j) := by
  obtain ⟨cells, h1, _, h3⟩ := h
  rw [cell_block h1, h3 j hj]
theorem MadeRow.free {w : World} {b n : Nat} {e : TypeId} {f : Nat → Value} (h : MadeRow w b e n f) (j : Nat) : w.frozen? ⟨b, j, none⟩ = false := by
  obtain ⟨cells, h1, _, h3⟩ := h
  simp [World.frozen?, h1]
theorem MadeRow.made {w : World} {e : TypeId} {z : Array Value} {n : Nat} (f : Nat → Value) (hz : z.size = 1) (hf : ∀ j, f j = z[0]!) : MadeRow (w.alloc (.cells (madeCells z n) e)) w.heap.size e n f := by
  refine ⟨_, heap_alloc_new _ _, size_madeCells _ _, fun j hj => ?_⟩
  have : (Array.range n)[j]? = some j := by rw [Array.getElem?_eq_some_iff]; exact ⟨by simpa using hj, by simp⟩
  simp [madeCells, this, hz, hf, Nat.mod_one]
theorem MadeRow.set {w : World} {b n : Nat} {e : TypeId} {f : Nat → Value} (h : MadeRow w b e n f) (i : Nat) (u : Value) (g : Nat → Value) (hg : ∀ j, g j = if j = i then u else f j) :
    MadeRow (w.setCell ⟨b, i, none⟩ u) b e n g := by
  obtain ⟨cells, h1, h2, h3⟩ := h
  refine ⟨cells.setIfInBounds i u, ?_, by simpa using h2, fun j hj => ?_⟩
  · simp [World.setCell, Array.getElem?_modify, h1]
  · rw [Array.getElem?_setIfInBounds, hg]
    by_cases hij : i = j
    · subst hij; simp [h2, hj]
    · rw [if_neg hij, if_neg (fun e => hij e.symm), h3 j hj]
theorem MadeRow.same {w w' : World} {b n : Nat} {e : TypeId} {f : Nat → Value} (h : MadeRow w b e n f) (hs : w'.heap[b]? = w.heap[b]?) : MadeRow w' b e n f := by
  obtain ⟨cells, h1, h2, h3⟩ := h
  exact ⟨cells, by rw [hs]; exact h1, h2, h3⟩

theorem OwnL.ints {w : World} : ∀ (xs : List Int), (∀ x ∈ xs, I64 x) → OwnL w 1 (xs.map .int) (xs.map fun x => [.int .i64 x]) (xs.map fun _ => [])
  | [], _ => ⟨rfl, rfl⟩
  | x :: xs, h => ⟨_, _, _, _, rfl, rfl, rfl, ⟨rfl, h x (by simp), rfl⟩, OwnL.ints xs fun y hy => h y (by simp [hy])⟩
theorem flatten_nils {α β : Type} : ∀ (xs : List α), List.flatten (xs.map fun _ => ([] : List β)) = []
  | [] => rfl
  | _ :: xs => by simp
theorem flatten_ones {α β : Type} (f : α → β) : ∀ (xs : List α), List.flatten (xs.map fun x => [f x]) = xs.map f
  | [] => rfl
  | x :: xs => by simp only [List.map_cons, List.flatten_cons, List.cons_append, List.nil_append]; rw [flatten_ones f xs]

theorem Own.ints_made {w : World} {b n cap : Nat} {e : TypeId} {f : Nat → Value} (h : MadeRow w b e n f) (xs : List Int) (hn : xs.length ≤ n) (hc : xs.length ≤ cap) (hm : cap ≤ 9223372036854775807) (hx : ∀ x ∈ xs, I64 x) (hf : ∀ j (hj : j < xs.length), f j = .int .i64 xs[j]) :
    Fresh b w (ints xs) [.slice (some ⟨b, 0, none⟩) xs.length cap] := by
  obtain ⟨cells, h1, h2, h3⟩ := h
  by_cases hne : xs = []
  · exact ⟨[], ⟨_, cap, by rw [List.length_map], by rw [List.length_map]; exact hc, hm, Or.inl ⟨by simp [hne], rfl⟩⟩, List.nodup_nil, by simp⟩
  · refine ⟨[b], ⟨_, cap, by rw [List.length_map], by rw [List.length_map]; exact hc, hm, Or.inr ⟨b, 0, cells, e, _, _, rfl, by rw [flatten_nils xs], h1, ?_, OwnL.ints xs hx⟩⟩, by simp, by simp⟩
    rw [flatten_ones]
    apply List.ext_getElem?
    intro j
    rw [List.getElem?_take]
    simp only [List.length_map, Nat.mul_one, List.drop_zero]
    by_cases hj : j < xs.length
    · rw [if_pos hj]
      have := h3 j (by omega)
      rw [hf j hj] at this
      simp [this, hj]
    · rw [if_neg hj, List.getElem?_eq_none (by simp only [List.length_map]; omega)]

theorem Ints.bd {w : World} {v : Value} {xs : List Int} (h : Ints w v xs) : ∀ x ∈ xs, I64 x := by
  obtain ⟨_, _, _, _, _, r⟩ := h.form
  intro x hx
  obtain ⟨i, hi, rfl⟩ := List.mem_iff_getElem.1 hx
  exact (r i hi).1

set_option maxHeartbeats 400000 in
theorem toIntS_any (v : Value) (xs : List Int) (w : World) (h1 : Ints w v xs) (hsz : xs.length ≤ 16777216) :
    Calls Try.prog 52 #[v] w fun e w' => ∃ u, e = .returned u ∧ Fresh w.heap.size w' (ints xs) [u] ∧ Below w.heap.size w w' := by
  have hbd := hid h1.bd
  obtain ⟨a1, c1, rfl, k1, m1, r1⟩ := h1.form
  clear h1
  obtain ⟨i0, hi, hz0, hz1, hz2⟩ := info_parts info_int
  have hmk := fun (wx : World) => run_make (P := Try.prog) wx 24 3 i0 _ Try.underlying24 hi hz0 .i64 .i64 xs.length xs.length (by omega) (by omega) (by rw [hz2]; omega) (by omega)
  simp only [hz1, Nat.mul_one, Int.toNat_natCast] at hmk
  go_enter Try.func52, Try.ntmps52
  go_wp2
  clear hmk
  go_loopw [4] (fun i wr => ∃ k : Nat, k ≤ xs.length ∧ i = .int .i64 k ∧ MadeRow wr w.heap.size 3 xs.length (fun j => .int .i64 (if j < k then xs.getD j 0 else 0)) ∧ Below w.heap.size w wr) (fun i _ => xs.length - (intOf i).toNat)
  case atStart => exact ⟨0, Nat.zero_le _, rfl, MadeRow.made _ rfl (fun j => by simp), (Below.refl _ _).alloc (Nat.le_refl _) _⟩
  case round =>
    obtain ⟨k, hk, rfl, hrow, hbel⟩ := hrel
    by_cases hlt : k < xs.length
    · obtain ⟨-, b, o, rfl, e1⟩ := r1 k hlt
      have e1' := cell_later hbel e1
      have e2 := hrow.cell k hlt
      have e3 := hrow.free k
      clear r1 e1
      go_wp2
      have R := hrow.set k (.int .i64 xs[k]) (fun j => .int .i64 (if j < k + 1 then xs.getD j 0 else 0)) (fun j => by
        by_cases hj : j = k
        · subst hj; rw [if_pos rfl, if_pos (by omega)]; simp [hlt]
        · rw [if_neg hj]; by_cases h2 : j < k
          · rw [if_pos h2, if_pos (by omega)]
          · rw [if_neg h2, if_neg (by omega)])
      go_roundw
      case rel => exact ⟨k + 1, by omega, by go_num, R, hbel.setCell (Nat.le_refl _) _⟩
      case measure => simp [intOf]; omega
    · go_wp2
      go_ret
      refine ⟨_, rfl, ?_, hbel⟩
      exact Own.ints_made hrow xs (Nat.le_refl _) (Nat.le_refl _) (by omega) hbd.out (fun j hj => by simp [show j < k by omega, hj])
end Go.Proofs.Ytggialagjkhdfaa
