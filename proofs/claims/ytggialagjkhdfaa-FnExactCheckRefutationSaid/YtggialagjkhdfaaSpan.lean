/-
  Data in blocks of their own, between two block numbers; calls that write between two block numbers.
  Conditions: none.
-/
import Derived.Test.YtggialagjkhdfaaOwn
namespace Go.Proofs.Ytggialagjkhdfaa
open Go.RowKit

/-- A datum in blocks of its own, each block once, all from number lo on and below hi. -/
def Span (lo hi : Nat) (w : World) (d : D) (vs : List Value) : Prop := ∃ fp, Own w d vs fp ∧ fp.Nodup ∧ ∀ b ∈ fp, lo ≤ b ∧ b < hi

theorem Fresh.span {lo : Nat} {w : World} {d : D} {vs : List Value} (h : Fresh lo w d vs) : Span lo w.heap.size w d vs := by
  obtain ⟨fp, h1, h2, h3⟩ := h
  exact ⟨fp, h1, h2, fun b hb => ⟨h3 b hb, Own.lt d vs fp h1 b hb⟩⟩
theorem Span.rep {lo hi : Nat} {w : World} {d : D} {vs : List Value} (h : Span lo hi w d vs) : Rep w d vs := by
  obtain ⟨fp, h1, _⟩ := h
  exact Own.rep d vs fp h1
theorem Span.mono {lo hi lo' hi' : Nat} {w : World} {d : D} {vs : List Value} (h : Span lo hi w d vs) (h1 : lo' ≤ lo) (h2 : hi ≤ hi') : Span lo' hi' w d vs := by
  obtain ⟨fp, g1, g2, g3⟩ := h
  exact ⟨fp, g1, g2, fun b hb => by have := g3 b hb; omega⟩
theorem Span.below {lo hi B : Nat} {w w' : World} {d : D} {vs : List Value} (h : Span lo hi w d vs) (hb : Below B w w') (hh : hi ≤ B) : Span lo hi w' d vs := by
  obtain ⟨fp, g1, g2, g3⟩ := h
  exact ⟨fp, Own.keep d vs fp g1 fun b hb' => hb.block b (by have := g3 b hb'; omega), g2, g3⟩

/-- The call writes to blocks from lo on and below hi alone, and makes none. -/
structure WritesIn (lo hi : Nat) (w w' : World) : Prop where
  os : w'.os = w.os
  tape : w'.tape = w.tape
  output : w'.output = w.output
  size : w'.heap.size = w.heap.size
  block : ∀ k, (k < lo ∨ hi ≤ k) → w'.heap[k]? = w.heap[k]?

theorem WritesIn.below {lo hi B : Nat} {w w' : World} (h : WritesIn lo hi w w') (hB : B ≤ lo) : Below B w w' :=
  ⟨h.os, h.tape, h.output, Nat.le_of_eq h.size.symm, fun k hk => h.block k (Or.inl (by omega))⟩
theorem Writes.within {fp : List Nat} {lo hi : Nat} {w w' : World} (h : Writes fp w w') (hf : ∀ b ∈ fp, lo ≤ b ∧ b < hi) : WritesIn lo hi w w' :=
  ⟨h.os, h.tape, h.output, h.size, fun k hk => h.block k fun hm => by have := hf k hm; omega⟩
theorem WritesIn.refl (lo hi : Nat) (w : World) : WritesIn lo hi w w := ⟨rfl, rfl, rfl, rfl, fun _ _ => rfl⟩
theorem WritesIn.trans {lo hi : Nat} {a b c : World} (h : WritesIn lo hi a b) (k : WritesIn lo hi b c) : WritesIn lo hi a c :=
  ⟨k.os.trans h.os, k.tape.trans h.tape, k.output.trans h.output, k.size.trans h.size, fun i hi => (k.block i hi).trans (h.block i hi)⟩
theorem WritesIn.mono {lo hi lo' hi' : Nat} {w w' : World} (h : WritesIn lo hi w w') (h1 : lo' ≤ lo) (h2 : hi ≤ hi') : WritesIn lo' hi' w w' :=
  ⟨h.os, h.tape, h.output, h.size, fun k hk => h.block k (by omega)⟩
theorem Span.apart {lo hi lo' hi' : Nat} {w w' : World} {d : D} {vs : List Value} (h : Span lo hi w d vs) (hw : WritesIn lo' hi' w w') (ha : hi ≤ lo' ∨ hi' ≤ lo) : Span lo hi w' d vs := by
  obtain ⟨fp, g1, g2, g3⟩ := h
  exact ⟨fp, Own.keep d vs fp g1 fun b hb => hw.block b (by have := g3 b hb; omega), g2, g3⟩

end Go.Proofs.Ytggialagjkhdfaa
