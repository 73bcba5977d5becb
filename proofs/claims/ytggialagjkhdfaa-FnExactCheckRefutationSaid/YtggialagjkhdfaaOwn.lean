/-
  What a Go value owns in memory: plain data trees in blocks of their own.
  Conditions: none.
-/
import Derived.Test.YtggialagjkhdfaaRep
namespace Go.Proofs.Ytggialagjkhdfaa
open Go.RowKit

mutual
/-- The cells vs read as the datum in w; its slices lie in the blocks fp, a block each, that may be written. -/
def Own (w : World) : D → List Value → List Nat → Prop
  | .int n, vs, fp => vs = [.int .i64 n] ∧ I64 n ∧ fp = []
  | .bool b, vs, fp => vs = [.bool b] ∧ fp = []
  | .str s, vs, fp => vs = [.string s] ∧ s.size ≤ 9223372036854775807 ∧ fp = []
  | .sl sz xs, vs, fp => ∃ ao cap, vs = [.slice ao xs.length cap] ∧ xs.length ≤ cap ∧ cap ≤ 9223372036854775807 ∧
      ((xs = [] ∧ fp = []) ∨ ∃ b o cells e vss fps, ao = some ⟨b, o, none⟩ ∧ fp = b :: List.flatten fps ∧ w.heap[b]? = some (.cells cells e (0, 0)) ∧
        (cells.toList.drop o).take (xs.length * sz) = List.flatten vss ∧ OwnL w sz xs vss fps)
  | .st fs, vs, fp => ∃ vss fps, vs = List.flatten vss ∧ fp = List.flatten fps ∧ OwnF w fs vss fps
/-- The elements of a slice, sz cells each. -/
def OwnL (w : World) (sz : Nat) : List D → List (List Value) → List (List Nat) → Prop
  | [], vss, fps => vss = [] ∧ fps = []
  | x :: xs, vss, fps => ∃ vs vss' fp fps', vss = vs :: vss' ∧ fps = fp :: fps' ∧ vs.length = sz ∧ Own w x vs fp ∧ OwnL w sz xs vss' fps'
/-- The fields of a struct. -/
def OwnF (w : World) : List D → List (List Value) → List (List Nat) → Prop
  | [], vss, fps => vss = [] ∧ fps = []
  | x :: xs, vss, fps => ∃ vs vss' fp fps', vss = vs :: vss' ∧ fps = fp :: fps' ∧ Own w x vs fp ∧ OwnF w xs vss' fps'
end

/-- The blocks of a list are as they were. -/
def Same (w w' : World) (fp : List Nat) : Prop := ∀ b ∈ fp, w'.heap[b]? = w.heap[b]?

mutual
theorem Own.keep {w w' : World} : ∀ (d : D) (vs : List Value) (fp : List Nat), Own w d vs fp → Same w w' fp → Own w' d vs fp
  | .int _, _, _, r, _ => r
  | .bool _, _, _, r, _ => r
  | .str _, _, _, r, _ => r
  | .sl sz xs, vs, fp, r, h => by
    obtain ⟨ao, cap, h1, h2, h3, h4⟩ := r
    refine ⟨ao, cap, h1, h2, h3, ?_⟩
    rcases h4 with h4 | ⟨b, o, cells, e, vss, fps, r1, r2, r3, r4, r5⟩
    · exact Or.inl h4
    · subst r2
      exact Or.inr ⟨b, o, cells, e, vss, fps, r1, rfl, by rw [h b (by simp)]; exact r3, r4, OwnL.keep xs vss fps r5 fun k hk => h k (by simp [hk])⟩
  | .st fs, vs, fp, r, h => by
    obtain ⟨vss, fps, r1, r2, r3⟩ := r
    subst r2
    exact ⟨vss, fps, r1, rfl, OwnF.keep fs vss fps r3 h⟩
theorem OwnL.keep {w w' : World} {sz : Nat} : ∀ (xs : List D) (vss : List (List Value)) (fps : List (List Nat)), OwnL w sz xs vss fps → Same w w' (List.flatten fps) → OwnL w' sz xs vss fps
  | [], _, _, r, _ => r
  | x :: xs, vss, fps, r, h => by
    obtain ⟨vs, vss', fp, fps', rfl, rfl, r3, r4, r5⟩ := r
    exact ⟨vs, vss', fp, fps', rfl, rfl, r3, Own.keep x vs fp r4 (fun k hk => h k (by simp [hk])), OwnL.keep xs vss' fps' r5 (fun k hk => h k (by rw [List.flatten_cons]; exact List.mem_append_right _ hk))⟩
theorem OwnF.keep {w w' : World} : ∀ (xs : List D) (vss : List (List Value)) (fps : List (List Nat)), OwnF w xs vss fps → Same w w' (List.flatten fps) → OwnF w' xs vss fps
  | [], _, _, r, _ => r
  | x :: xs, vss, fps, r, h => by
    obtain ⟨vs, vss', fp, fps', rfl, rfl, r4, r5⟩ := r
    exact ⟨vs, vss', fp, fps', rfl, rfl, Own.keep x vs fp r4 (fun k hk => h k (by simp [hk])), OwnF.keep xs vss' fps' r5 (fun k hk => h k (by rw [List.flatten_cons]; exact List.mem_append_right _ hk))⟩
end

/-- Cells of a row, behind the j-th element's beginning. -/
theorem flatten_at {sz : Nat} : ∀ (vss : List (List Value)), (∀ vs ∈ vss, vs.length = sz) → ∀ i (hi : i < vss.length) j (_ : j < sz), (List.flatten vss)[i * sz + j]? = vss[i][j]?
  | [], _, i, hi, _, _ => by simp at hi
  | vs :: vss, h, 0, _, j, hj => by
    have h0 := h vs (by simp)
    simp only [List.flatten_cons, List.getElem_cons_zero, Nat.zero_mul, Nat.zero_add]
    rw [List.getElem?_append_left (by omega)]
  | vs :: vss, h, i + 1, hi, j, hj => by
    have h0 := h vs (by simp)
    have := flatten_at vss (fun v hv => h v (by simp [hv])) i (by simpa using hi) j hj
    simp only [List.flatten_cons, List.getElem_cons_succ]
    rw [List.getElem?_append_right (by rw [h0, Nat.add_mul]; omega), ← this]
    congr 1
    rw [h0, Nat.add_mul]; omega

theorem OwnL.lengths {w : World} {sz : Nat} : ∀ (xs : List D) (vss : List (List Value)) (fps : List (List Nat)), OwnL w sz xs vss fps →
    vss.length = xs.length ∧ fps.length = xs.length ∧ ∀ vs ∈ vss, vs.length = sz
  | [], _, _, r => by obtain ⟨rfl, rfl⟩ := r; simp
  | x :: xs, vss, fps, r => by
    obtain ⟨vs, vss', fp, fps', rfl, rfl, r3, r4, r5⟩ := r
    obtain ⟨e1, e2, e3⟩ := OwnL.lengths xs vss' fps' r5
    exact ⟨by simp [e1], by simp [e2], by simp only [List.mem_cons]; intro v hv; rcases hv with rfl | hv; exact r3; exact e3 v hv⟩

theorem OwnL.at {w : World} {sz : Nat} : ∀ (xs : List D) (vss : List (List Value)) (fps : List (List Nat)), OwnL w sz xs vss fps →
    ∀ i (hi : i < xs.length) (h1 : i < vss.length) (h2 : i < fps.length), Own w xs[i] vss[i] fps[i]
  | [], _, _, _, i, hi, _, _ => by simp at hi
  | x :: xs, vss, fps, r, i, hi, h1, h2 => by
    obtain ⟨vs, vss', fp, fps', rfl, rfl, r3, r4, r5⟩ := r
    cases i with
    | zero => exact r4
    | succ i => exact OwnL.at xs vss' fps' r5 i (by simpa using hi) (by simpa using h1) (by simpa using h2)

theorem OwnL.snoc {w : World} {sz : Nat} {x : D} {vs : List Value} {fp : List Nat} (hl : vs.length = sz) (hx : Own w x vs fp) : ∀ (xs : List D) (vss : List (List Value)) (fps : List (List Nat)),
    OwnL w sz xs vss fps → OwnL w sz (xs ++ [x]) (vss ++ [vs]) (fps ++ [fp])
  | [], _, _, r => by obtain ⟨rfl, rfl⟩ := r; exact ⟨vs, [], fp, [], rfl, rfl, hl, hx, rfl, rfl⟩
  | y :: xs, vss, fps, r => by
    obtain ⟨vs', vss', fp', fps', rfl, rfl, r3, r4, r5⟩ := r
    exact ⟨vs', vss' ++ [vs], fp', fps' ++ [fp], rfl, rfl, r3, r4, OwnL.snoc hl hx xs vss' fps' r5⟩

/-- Which block's cell. -/
theorem cell_block {w : World} {b : Nat} {cells : Array Value} {e : TypeId} {fr : Nat × Nat} (h : w.heap[b]? = some (.cells cells e fr)) (j : Nat) : w.cell? ⟨b, j, none⟩ = cells[j]? := by
  simp [World.cell?, h]

theorem row_cells {w : World} {b o sz n : Nat} {cells : Array Value} {e : TypeId} {fr : Nat × Nat} (h : w.heap[b]? = some (.cells cells e fr)) {vss : List (List Value)}
    (ht : (cells.toList.drop o).take (n * sz) = List.flatten vss) (hs : ∀ vs ∈ vss, vs.length = sz) (i : Nat) (hi : i < vss.length) (j : Nat) (v : Value) (hv : vss[i][j]? = some v) :
    w.cell? ⟨b, o + i * sz + j, none⟩ = some v := by
  have hj : j < sz := by
    have := hs vss[i] (List.getElem_mem hi)
    rcases Nat.lt_or_ge j vss[i].length with h' | h'
    · omega
    · rw [List.getElem?_eq_none h'] at hv; cases hv
  have h1 := flatten_at vss hs i hi j hj
  rw [hv, ← ht, List.getElem?_take] at h1
  split at h1
  · rw [List.getElem?_drop] at h1
    rw [cell_block h, Nat.add_assoc]
    simpa using h1
  · cases h1

mutual
theorem Own.rep {w : World} : ∀ (d : D) (vs : List Value) (fp : List Nat), Own w d vs fp → Rep w d vs
  | .int _, _, _, r => ⟨r.1, r.2.1⟩
  | .bool _, _, _, r => r.1
  | .str _, _, _, r => ⟨r.1, r.2.1⟩
  | .sl sz xs, vs, fp, r => by
    obtain ⟨ao, cap, h1, h2, h3, h4⟩ := r
    refine ⟨ao, cap, h1, h2, h3, ?_⟩
    rcases h4 with h4 | ⟨b, o, cells, e, vss, fps, r1, r2, r3, r4, r5⟩
    · exact Or.inl h4.1
    · obtain ⟨l1, l2, l3⟩ := OwnL.lengths xs vss fps r5
      refine Or.inr ⟨b, o, r1, RepRow.mk fun i hi => ?_⟩
      have hr := OwnL.rep xs vss fps r5 i hi (by omega)
      exact ⟨vss[i]'(by omega), l3 _ (List.getElem_mem _), fun j v hv => row_cells r3 r4 l3 i (by omega) j v hv, hr⟩
  | .st fs, vs, fp, r => by
    obtain ⟨vss, fps, r1, r2, r3⟩ := r
    rw [r1]
    exact OwnF.rep fs vss fps r3
theorem OwnL.rep {w : World} {sz : Nat} : ∀ (xs : List D) (vss : List (List Value)) (fps : List (List Nat)), OwnL w sz xs vss fps → ∀ i (hi : i < xs.length) (h1 : i < vss.length), Rep w xs[i] vss[i]
  | [], _, _, _, i, hi, _ => by simp at hi
  | x :: xs, vss, fps, r, i, hi, h1 => by
    obtain ⟨vs, vss', fp, fps', rfl, rfl, r3, r4, r5⟩ := r
    cases i with
    | zero => exact Own.rep x vs fp r4
    | succ i => exact OwnL.rep xs vss' fps' r5 i (by simpa using hi) (by simpa using h1)
theorem OwnF.rep {w : World} : ∀ (xs : List D) (vss : List (List Value)) (fps : List (List Nat)), OwnF w xs vss fps → RepFs w xs (List.flatten vss)
  | [], _, _, r => by obtain ⟨rfl, rfl⟩ := r; rfl
  | x :: xs, vss, fps, r => by
    obtain ⟨vs, vss', fp, fps', rfl, rfl, r4, r5⟩ := r
    exact ⟨vs, List.flatten vss', by simp, Own.rep x vs fp r4, OwnF.rep xs vss' fps' r5⟩
end

mutual
theorem Own.lt {w : World} : ∀ (d : D) (vs : List Value) (fp : List Nat), Own w d vs fp → ∀ b ∈ fp, b < w.heap.size
  | .int _, _, _, r, b, hb => by rw [r.2.2] at hb; simp at hb
  | .bool _, _, _, r, b, hb => by rw [r.2] at hb; simp at hb
  | .str _, _, _, r, b, hb => by rw [r.2.2] at hb; simp at hb
  | .sl sz xs, vs, fp, r, b, hb => by
    obtain ⟨ao, cap, h1, h2, h3, h4⟩ := r
    rcases h4 with h4 | ⟨b', o, cells, e, vss, fps, r1, r2, r3, r4, r5⟩
    · rw [h4.2] at hb; simp at hb
    · subst r2
      rcases List.mem_cons.1 hb with rfl | hb
      · exact (Array.getElem?_eq_some_iff.1 r3).1
      · exact OwnL.lt xs vss fps r5 b hb
  | .st fs, vs, fp, r, b, hb => by
    obtain ⟨vss, fps, r1, r2, r3⟩ := r
    subst r2
    exact OwnF.lt fs vss fps r3 b hb
theorem OwnL.lt {w : World} {sz : Nat} : ∀ (xs : List D) (vss : List (List Value)) (fps : List (List Nat)), OwnL w sz xs vss fps → ∀ b ∈ List.flatten fps, b < w.heap.size
  | [], _, _, r, b, hb => by obtain ⟨rfl, rfl⟩ := r; simp at hb
  | x :: xs, vss, fps, r, b, hb => by
    obtain ⟨vs, vss', fp, fps', rfl, rfl, r3, r4, r5⟩ := r
    rw [List.flatten_cons, List.mem_append] at hb
    rcases hb with hb | hb
    · exact Own.lt x vs fp r4 b hb
    · exact OwnL.lt xs vss' fps' r5 b hb
theorem OwnF.lt {w : World} : ∀ (xs : List D) (vss : List (List Value)) (fps : List (List Nat)), OwnF w xs vss fps → ∀ b ∈ List.flatten fps, b < w.heap.size
  | [], _, _, r, b, hb => by obtain ⟨rfl, rfl⟩ := r; simp at hb
  | x :: xs, vss, fps, r, b, hb => by
    obtain ⟨vs, vss', fp, fps', rfl, rfl, r4, r5⟩ := r
    rw [List.flatten_cons, List.mem_append] at hb
    rcases hb with hb | hb
    · exact Own.lt x vs fp r4 b hb
    · exact OwnF.lt xs vss' fps' r5 b hb
end

/-- A datum in blocks of its own, each block once, all from number lo on. -/
def Fresh (lo : Nat) (w : World) (d : D) (vs : List Value) : Prop := ∃ fp, Own w d vs fp ∧ fp.Nodup ∧ ∀ b ∈ fp, lo ≤ b

theorem Fresh.rep {lo : Nat} {w : World} {d : D} {vs : List Value} (h : Fresh lo w d vs) : Rep w d vs := by
  obtain ⟨fp, h, _⟩ := h
  exact Own.rep d vs fp h
theorem Fresh.mono {lo lo' : Nat} {w : World} {d : D} {vs : List Value} (h : Fresh lo w d vs) (hl : lo' ≤ lo) : Fresh lo' w d vs := by
  obtain ⟨fp, h, h1, h2⟩ := h
  exact ⟨fp, h, h1, fun b hb => Nat.le_trans hl (h2 b hb)⟩
theorem Fresh.below {lo : Nat} {w w' : World} {d : D} {vs : List Value} (h : Fresh lo w d vs) (hb : Below w.heap.size w w') : Fresh lo w' d vs := by
  obtain ⟨fp, h, h1, h2⟩ := h
  exact ⟨fp, Own.keep d vs fp h fun b hb' => hb.block b (Own.lt d vs fp h b hb'), h1, h2⟩

/-- A store below all the blocks. -/
theorem Fresh.setCell {lo : Nat} {w : World} {d : D} {vs : List Value} (h : Fresh lo w d vs) {p : Addr} (hp : p.block < lo) (u : Value) : Fresh lo (w.setCell p u) d vs := by
  obtain ⟨fp, h, h1, h2⟩ := h
  exact ⟨fp, Own.keep d vs fp h fun b hb => Below.heap_setCell _ _ _ _ (by have := h2 b hb; omega), h1, h2⟩

/-- The call writes to the blocks fp alone, and makes none. -/
structure Writes (fp : List Nat) (w w' : World) : Prop where
  os : w'.os = w.os
  tape : w'.tape = w.tape
  output : w'.output = w.output
  size : w'.heap.size = w.heap.size
  block : ∀ k, k ∉ fp → w'.heap[k]? = w.heap[k]?

theorem Writes.refl (fp : List Nat) (w : World) : Writes fp w w := ⟨rfl, rfl, rfl, rfl, fun _ _ => rfl⟩
theorem Writes.trans {fp : List Nat} {a b c : World} (h : Writes fp a b) (k : Writes fp b c) : Writes fp a c :=
  ⟨k.os.trans h.os, k.tape.trans h.tape, k.output.trans h.output, k.size.trans h.size, fun i hi => (k.block i hi).trans (h.block i hi)⟩
theorem Writes.mono {fp fp' : List Nat} {a b : World} (h : Writes fp a b) (hs : ∀ k ∈ fp, k ∈ fp') : Writes fp' a b :=
  ⟨h.os, h.tape, h.output, h.size, fun k hk => h.block k fun hk' => hk (hs k hk')⟩
theorem Writes.drewN {fp : List Nat} {a b : World} (h : Writes fp a b) (n : Nat) : Writes fp a (b.drewN n) := ⟨h.os, h.tape, h.output, h.size, h.block⟩
theorem Writes.below {fp : List Nat} {lo : Nat} {a b : World} (h : Writes fp a b) (hl : ∀ k ∈ fp, lo ≤ k) : Below lo a b :=
  ⟨h.os, h.tape, h.output, Nat.le_of_eq h.size.symm, fun k hk => h.block k fun hm => by have := hl k hm; omega⟩
theorem Own.writes {fp fp' : List Nat} {w w' : World} {d : D} {vs : List Value} (h : Own w d vs fp) (hw : Writes fp' w w') (hd : ∀ k ∈ fp, k ∉ fp') : Own w' d vs fp :=
  Own.keep d vs fp h fun b hb => hw.block b (hd b hb)

end Go.Proofs.Ytggialagjkhdfaa
