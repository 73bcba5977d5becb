/-
  What a Go value reads as in memory: plain data trees, their reading, and what keeps it.
  Conditions: none.
-/
import Derived.WalkKit
import Derived.WalkSpells
import Derived.WalkLawsBesides
import Derived.Deep.QuietTactic
import Derived.BigQuiet
import Derived.Outline
namespace Go.Proofs.Ytggialagjkhdfaa
open Go.RowKit

/-- Plain data: integers, bools, strings, slices (with the number of cells of an element), structs. -/
inductive D where
  | int (n : Int)
  | bool (b : Bool)
  | str (s : ByteArray)
  | sl (sz : Nat) (xs : List D)
  | st (fs : List D)

/-- A fact laid behind a name, so that the walk does not take it for a rule. -/
theorem hid {p : Prop} (h : p) : Hid p := h

def I64 (n : Int) : Prop := -9223372036854775808 ≤ n ∧ n ≤ 9223372036854775807

mutual
/-- The cells vs read as the datum in the world w. -/
def Rep (w : World) : D → List Value → Prop
  | .int n, vs => vs = [.int .i64 n] ∧ I64 n
  | .bool b, vs => vs = [.bool b]
  | .str s, vs => vs = [.string s] ∧ s.size ≤ 9223372036854775807
  | .sl sz xs, vs => ∃ ao cap, vs = [.slice ao xs.length cap] ∧ xs.length ≤ cap ∧ cap ≤ 9223372036854775807 ∧ (xs = [] ∨ ∃ b o, ao = some ⟨b, o, none⟩ ∧ RepRow w b o sz xs)
  | .st fs, vs => RepFs w fs vs
/-- From offset o of block b on lie the elements, sz cells each. -/
def RepRow (w : World) (b : Nat) : Nat → Nat → List D → Prop
  | _, _, [] => True
  | o, sz, x :: xs => (∃ vs, vs.length = sz ∧ (∀ j v, vs[j]? = some v → w.cell? ⟨b, o + j, none⟩ = some v) ∧ Rep w x vs) ∧ RepRow w b (o + sz) sz xs
/-- The fields, one behind the other. -/
def RepFs (w : World) : List D → List Value → Prop
  | [], vs => vs = []
  | f :: fs, vs => ∃ v1 v2, vs = v1 ++ v2 ∧ Rep w f v1 ∧ RepFs w fs v2
end

/-- Every cell that is there in w is there, the same, in w'. -/
def Keeps (w w' : World) : Prop := ∀ p v, w.cell? p = some v → w'.cell? p = some v

theorem Keeps.refl (w : World) : Keeps w w := fun _ _ h => h
theorem Keeps.trans {a b c : World} (h : Keeps a b) (k : Keeps b c) : Keeps a c := fun p v e => k p v (h p v e)
theorem Keeps.of_below {w w' : World} (h : Below w.heap.size w w') : Keeps w w' := fun _ _ e => cell_later h e
theorem Keeps.drewN (w : World) (n : Nat) : Keeps w (w.drewN n) := fun _ _ e => e

mutual
theorem Rep.keep {w w' : World} (h : Keeps w w') : ∀ (d : D) (vs : List Value), Rep w d vs → Rep w' d vs
  | .int _, _, r => r
  | .bool _, _, r => r
  | .str _, _, r => r
  | .sl sz xs, vs, r => by
    obtain ⟨ao, cap, h1, h2, h3, h4⟩ := r
    refine ⟨ao, cap, h1, h2, h3, ?_⟩
    rcases h4 with h4 | ⟨b, o, h4, h5⟩
    · exact Or.inl h4
    · exact Or.inr ⟨b, o, h4, RepRow.keep h b o sz xs h5⟩
  | .st fs, vs, r => RepFs.keep h fs vs r
theorem RepRow.keep {w w' : World} (h : Keeps w w') (b : Nat) : ∀ (o sz : Nat) (xs : List D), RepRow w b o sz xs → RepRow w' b o sz xs
  | _, _, [], _ => trivial
  | o, sz, x :: xs, r => by
    obtain ⟨⟨vs, h1, h2, h3⟩, h4⟩ := r
    exact ⟨⟨vs, h1, fun j v e => h _ _ (h2 j v e), Rep.keep h x vs h3⟩, RepRow.keep h b (o + sz) sz xs h4⟩
theorem RepFs.keep {w w' : World} (h : Keeps w w') : ∀ (fs : List D) (vs : List Value), RepFs w fs vs → RepFs w' fs vs
  | [], _, r => r
  | f :: fs, vs, r => by
    obtain ⟨v1, v2, h1, h2, h3⟩ := r
    exact ⟨v1, v2, h1, Rep.keep h f v1 h2, RepFs.keep h fs v2 h3⟩
end

/-- One element of a row. -/
theorem RepRow.at {w : World} {b sz : Nat} : ∀ {xs : List D} {o : Nat}, RepRow w b o sz xs → ∀ i (hi : i < xs.length),
    ∃ vs, vs.length = sz ∧ (∀ j v, vs[j]? = some v → w.cell? ⟨b, o + i * sz + j, none⟩ = some v) ∧ Rep w xs[i] vs
  | [], _, _, i, hi => by simp at hi
  | x :: xs, o, r, 0, _ => by
    obtain ⟨⟨vs, h1, h2, h3⟩, _⟩ := r
    exact ⟨vs, h1, fun j v e => by simpa using h2 j v e, h3⟩
  | x :: xs, o, r, i + 1, hi => by
    obtain ⟨vs, h1, h2, h3⟩ := RepRow.at r.2 i (by simpa using hi)
    refine ⟨vs, h1, fun j v e => ?_, by simpa using h3⟩
    have := h2 j v e
    rwa [show o + sz + i * sz + j = o + (i + 1) * sz + j from by rw [Nat.add_mul]; omega] at this

theorem RepRow.mk {w : World} {b sz : Nat} : ∀ {xs : List D} {o : Nat}, (∀ i (hi : i < xs.length),
    ∃ vs, vs.length = sz ∧ (∀ j v, vs[j]? = some v → w.cell? ⟨b, o + i * sz + j, none⟩ = some v) ∧ Rep w xs[i] vs) → RepRow w b o sz xs
  | [], _, _ => trivial
  | x :: xs, o, h => by
    refine ⟨?_, RepRow.mk fun i hi => ?_⟩
    · obtain ⟨vs, h1, h2, h3⟩ := h 0 (by simp)
      exact ⟨vs, h1, fun j v e => by simpa using h2 j v e, h3⟩
    · obtain ⟨vs, h1, h2, h3⟩ := h (i + 1) (by simpa using hi)
      refine ⟨vs, h1, fun j v e => ?_, by simpa using h3⟩
      have := h2 j v e
      rwa [show o + (i + 1) * sz + j = o + sz + i * sz + j from by rw [Nat.add_mul]; omega] at this

/-- A slice's value and its cells, an element of one cell each. -/
theorem Rep.sl1 {w : World} {xs : List D} {v : Value} (h : Rep w (.sl 1 xs) [v]) :
    ∃ ao cap, v = .slice ao xs.length cap ∧ xs.length ≤ cap ∧ cap ≤ 9223372036854775807 ∧ ∀ i (hi : i < xs.length), ∃ b o u, ao = some ⟨b, o, none⟩ ∧ w.cell? ⟨b, o + i, none⟩ = some u ∧ Rep w xs[i] [u] := by
  obtain ⟨ao, cap, h1, h2, h3, h4⟩ := h
  refine ⟨ao, cap, by simpa using h1, h2, h3, fun i hi => ?_⟩
  rcases h4 with h4 | ⟨b, o, h4, h5⟩
  · subst h4; simp at hi
  · obtain ⟨vs, e1, e2, e3⟩ := h5.at i hi
    match vs, e1 with
    | [u], _ => exact ⟨b, o, u, h4, by simpa using e2 0 u rfl, e3⟩

def ints (xs : List Int) : D := .sl 1 (xs.map .int)
def rows (xss : List (List Int)) : D := .sl 1 (xss.map ints)

/-- The value v is a slice of ints that reads as xs. -/
def Ints (w : World) (v : Value) (xs : List Int) : Prop := Rep w (ints xs) [v]
def Rows2 (w : World) (v : Value) (xss : List (List Int)) : Prop := Rep w (rows xss) [v]

theorem Ints.keep {w w' : World} {v : Value} {xs : List Int} (h : Ints w v xs) (k : Keeps w w') : Ints w' v xs := Rep.keep k _ _ h
theorem Rows2.keep {w w' : World} {v : Value} {xs : List (List Int)} (h : Rows2 w v xs) (k : Keeps w w') : Rows2 w' v xs := Rep.keep k _ _ h

theorem Ints.form {w : World} {v : Value} {xs : List Int} (h : Ints w v xs) :
    ∃ ao cap, v = .slice ao xs.length cap ∧ xs.length ≤ cap ∧ cap ≤ 9223372036854775807 ∧ ∀ i (hi : i < xs.length), I64 xs[i] ∧ ∃ b o, ao = some ⟨b, o, none⟩ ∧ w.cell? ⟨b, o + i, none⟩ = some (.int .i64 xs[i]) := by
  obtain ⟨ao, cap, h1, h2, h3, h4⟩ := Rep.sl1 h
  refine ⟨ao, cap, by simpa using h1, by simpa using h2, h3, fun i hi => ?_⟩
  obtain ⟨b, o, u, e1, e2, e3⟩ := h4 i (by simpa using hi)
  simp only [List.getElem_map, Rep, List.cons.injEq, and_true] at e3
  exact ⟨e3.2, b, o, e1, by rw [e2, e3.1]⟩

theorem Rows2.form {w : World} {v : Value} {xss : List (List Int)} (h : Rows2 w v xss) :
    ∃ ao cap, v = .slice ao xss.length cap ∧ xss.length ≤ cap ∧ cap ≤ 9223372036854775807 ∧ ∀ i (hi : i < xss.length), ∃ b o u, ao = some ⟨b, o, none⟩ ∧ w.cell? ⟨b, o + i, none⟩ = some u ∧ Ints w u xss[i] := by
  obtain ⟨ao, cap, h1, h2, h3, h4⟩ := Rep.sl1 h
  refine ⟨ao, cap, by simpa using h1, by simpa using h2, h3, fun i hi => ?_⟩
  obtain ⟨b, o, u, e1, e2, e3⟩ := h4 i (by simpa using hi)
  exact ⟨b, o, u, e1, e2, by simpa [Ints] using e3⟩

/-- w' is w but for draws. -/
def Qt (w w' : World) : Prop := ∃ n, w' = w.drewN n
theorem Qt.refl (w : World) : Qt w w := ⟨0, rfl⟩
theorem Qt.drewN {a w : World} (h : Qt a w) (m : Nat) : Qt a (w.drewN m) := by obtain ⟨n, rfl⟩ := h; exact ⟨n + m, World.drewN_drewN _ _ _⟩
theorem Qt.drew {a w : World} (h : Qt a w) : Qt a w.drew := by obtain ⟨n, rfl⟩ := h; exact ⟨n + 1, rfl⟩
theorem Qt.of {w : World} (n : Nat) : Qt w (w.drewN n) := ⟨n, rfl⟩
theorem Qt.of2 {w : World} (n m : Nat) : Qt w ((w.drewN n).drewN m) := (Qt.of n).drewN m
theorem Qt.of3 {w : World} (n m k : Nat) : Qt w (((w.drewN n).drewN m).drewN k) := (Qt.of2 n m).drewN k
theorem Qt.trans {a b c : World} (h : Qt a b) (k : Qt b c) : Qt a c := by obtain ⟨m, rfl⟩ := k; exact h.drewN m
theorem Qt.keeps {w w' : World} (h : Qt w w') : Keeps w w' := by obtain ⟨n, rfl⟩ := h; exact Keeps.drewN w n
theorem Qt.below {w w' : World} (h : Qt w w') (B : Nat) : Below B w w' := by obtain ⟨n, rfl⟩ := h; exact ⟨rfl, rfl, rfl, Nat.le_refl _, fun _ _ => rfl⟩

theorem ret_bool {a b : Bool} (h : a = b) : Ending.returned (.bool a) = .returned (.bool b) := by rw [h]
theorem ret_int {a b : Int} (h : a = b) : Ending.returned (.int .i64 a) = .returned (.int .i64 b) := by rw [h]
theorem drop_cons {α : Type} {l : List α} {k : Nat} (h : k < l.length) : l.drop k = l[k] :: l.drop (k + 1) := List.drop_eq_getElem_cons h
theorem drop_end {α : Type} {l : List α} {k : Nat} (h : ¬ k < l.length) : l.drop k = [] := List.drop_of_length_le (by omega)

end Go.Proofs.Ytggialagjkhdfaa
