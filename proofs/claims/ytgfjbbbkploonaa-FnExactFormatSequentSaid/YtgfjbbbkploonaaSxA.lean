/-
  Plain data in memory: what cells read as, and what a call owns.
  Conditions: none.
-/
import Derived.WalkKit
namespace Go.Proofs.Ytgfjbbbkploonaa
set_option linter.unusedSimpArgs false
set_option linter.unusedVariables false
open Go.RowKit

/-- Plain data, cell by cell: integers, bools, strings, slices (cells of an element; the elements' cells), pointers to cells, functions with what they captured, maps (whether the values are structs; each entry's key and value). -/
inductive T where
  | int (k : IntKind) (n : Int)
  | bool (b : Bool)
  | str (s : List UInt8)
  | sl (sz : Nat) (rows : List (List T))
  | ptr (cells : List T)
  | fn (f : FuncId) (caps : List T)
  | mp (ag : Bool) (rows : List (List T))

abbrev maxI : Nat := 9223372036854775807

mutual
/-- The value reads as the datum in w; the blocks that are read satisfy A. -/
def RepV (w : World) (A : Nat → Prop) : T → Value → Prop
  | .int k n, v => v = .int k n ∧ k.min ≤ n ∧ n ≤ k.max
  | .bool b, v => v = .bool b
  | .str s, v => v = .string ⟨s.toArray⟩ ∧ s.length ≤ maxI
  | .sl sz rows, v => ∃ ao cap, v = .slice ao rows.length cap ∧ rows.length ≤ cap ∧ cap ≤ maxI ∧ (rows = [] ∨ ∃ b o, ao = some ⟨b, o, none⟩ ∧ A b ∧ RepRows w A b o sz rows)
  | .ptr cells, v => ∃ b o, v = .pointer (some ⟨b, o, none⟩) ∧ A b ∧ RepAt w A b o cells
  | .fn f caps, v => ∃ vs, v = .func (.func f) #[] ⟨vs⟩ ∧ RepAll w A caps vs
  | .mp ag rows, v => ∃ b es clk, v = .map (some b) ∧ A b ∧ w.heap[b]? = some (.map es clk) ∧ RepEnts w A ag rows es.toList
def RepEnts (w : World) (A : Nat → Prop) (ag : Bool) : List (List T) → List MapEntry → Prop
  | [], es => es = []
  | r :: rest, es => ∃ e es' us, es = e :: es' ∧ (if ag = true then e.val = .agg ⟨us⟩ else us = [e.val]) ∧ RepAll w A r (e.key :: us) ∧ RepEnts w A ag rest es'
def RepRows (w : World) (A : Nat → Prop) (b : Nat) : Nat → Nat → List (List T) → Prop
  | _, _, [] => True
  | o, sz, r :: rest => r.length = sz ∧ RepAt w A b o r ∧ RepRows w A b (o + sz) sz rest
def RepAt (w : World) (A : Nat → Prop) (b : Nat) : Nat → List T → Prop
  | _, [] => True
  | o, c :: cs => (∃ v, w.cell? ⟨b, o, none⟩ = some v ∧ RepV w A c v) ∧ RepAt w A b (o + 1) cs
def RepAll (w : World) (A : Nat → Prop) : List T → List Value → Prop
  | [], vs => vs = []
  | c :: cs, vs => ∃ v vs', vs = v :: vs' ∧ RepV w A c v ∧ RepAll w A cs vs'
end

theorem cell_same {w w' : World} {b : Nat} (h : w'.heap[b]? = w.heap[b]?) (o : Nat) : w'.cell? ⟨b, o, none⟩ = w.cell? ⟨b, o, none⟩ := by
  simp [World.cell?, h]

mutual
theorem RepV.keep {w w' : World} {A A' : Nat → Prop} (hs : ∀ b, A b → w'.heap[b]? = w.heap[b]?) (ha : ∀ b, A b → A' b) : ∀ (t : T) (v : Value), RepV w A t v → RepV w' A' t v
  | .int _ _, _, h => by unfold RepV at h ⊢; exact h
  | .bool _, _, h => by unfold RepV at h ⊢; exact h
  | .str _, _, h => by unfold RepV at h ⊢; exact h
  | .sl sz rows, v, h => by
    unfold RepV at h ⊢
    obtain ⟨ao, cap, h1, h2, h3, h4⟩ := h
    refine ⟨ao, cap, h1, h2, h3, ?_⟩
    rcases h4 with h4 | ⟨b, o, h4, h5, h6⟩
    · exact Or.inl h4
    · exact Or.inr ⟨b, o, h4, ha b h5, RepRows.keep hs ha b (hs b h5) o sz rows h6⟩
  | .ptr cells, v, h => by
    unfold RepV at h ⊢
    obtain ⟨b, o, h1, h2, h3⟩ := h
    exact ⟨b, o, h1, ha b h2, RepAt.keep hs ha b (hs b h2) o cells h3⟩
  | .fn f caps, v, h => by
    unfold RepV at h ⊢
    obtain ⟨vs, h1, h2⟩ := h
    exact ⟨vs, h1, RepAll.keep hs ha caps vs h2⟩
  | .mp ag rows, v, h => by
    unfold RepV at h ⊢
    obtain ⟨b, es, clk, h1, h2, h3, h4⟩ := h
    exact ⟨b, es, clk, h1, ha b h2, by rw [hs b h2]; exact h3, RepEnts.keep hs ha ag rows es.toList h4⟩
theorem RepEnts.keep {w w' : World} {A A' : Nat → Prop} (hs : ∀ b, A b → w'.heap[b]? = w.heap[b]?) (ha : ∀ b, A b → A' b) (ag : Bool) : ∀ (rows : List (List T)) (es : List MapEntry), RepEnts w A ag rows es → RepEnts w' A' ag rows es
  | [], _, h => by unfold RepEnts at h ⊢; exact h
  | r :: rest, _, h => by
    unfold RepEnts at h ⊢
    obtain ⟨e, es', us, h1, h2, h3, h4⟩ := h
    exact ⟨e, es', us, h1, h2, RepAll.keep hs ha r _ h3, RepEnts.keep hs ha ag rest es' h4⟩
theorem RepRows.keep {w w' : World} {A A' : Nat → Prop} (hs : ∀ b, A b → w'.heap[b]? = w.heap[b]?) (ha : ∀ b, A b → A' b) (b : Nat) (hb : w'.heap[b]? = w.heap[b]?) : ∀ (o sz : Nat) (rows : List (List T)), RepRows w A b o sz rows → RepRows w' A' b o sz rows
  | _, _, [], _ => by unfold RepRows; trivial
  | o, sz, r :: rest, h => by
    unfold RepRows at h ⊢
    exact ⟨h.1, RepAt.keep hs ha b hb o r h.2.1, RepRows.keep hs ha b hb (o + sz) sz rest h.2.2⟩
theorem RepAt.keep {w w' : World} {A A' : Nat → Prop} (hs : ∀ b, A b → w'.heap[b]? = w.heap[b]?) (ha : ∀ b, A b → A' b) (b : Nat) (hb : w'.heap[b]? = w.heap[b]?) : ∀ (o : Nat) (cs : List T), RepAt w A b o cs → RepAt w' A' b o cs
  | _, [], _ => by unfold RepAt; trivial
  | o, c :: cs, h => by
    unfold RepAt at h ⊢
    obtain ⟨⟨v, h1, h2⟩, h3⟩ := h
    exact ⟨⟨v, by rw [cell_same hb]; exact h1, RepV.keep hs ha c v h2⟩, RepAt.keep hs ha b hb (o + 1) cs h3⟩
theorem RepAll.keep {w w' : World} {A A' : Nat → Prop} (hs : ∀ b, A b → w'.heap[b]? = w.heap[b]?) (ha : ∀ b, A b → A' b) : ∀ (cs : List T) (vs : List Value), RepAll w A cs vs → RepAll w' A' cs vs
  | [], _, h => by unfold RepAll at h ⊢; exact h
  | c :: cs, vs, h => by
    unfold RepAll at h ⊢
    obtain ⟨v, vs', h1, h2, h3⟩ := h
    exact ⟨v, vs', h1, RepV.keep hs ha c v h2, RepAll.keep hs ha cs vs' h3⟩
end

theorem RepAt.at {w : World} {A : Nat → Prop} {b : Nat} : ∀ {cs : List T} {o : Nat}, RepAt w A b o cs → ∀ j c, cs[j]? = some c → ∃ v, w.cell? ⟨b, o + j, none⟩ = some v ∧ RepV w A c v
  | [], _, _, j, c, h => by simp at h
  | d :: cs, o, h, 0, c, hj => by
    unfold RepAt at h
    simp only [List.getElem?_cons_zero, Option.some.injEq] at hj
    subst hj
    exact h.1
  | d :: cs, o, h, j + 1, c, hj => by
    unfold RepAt at h
    have := RepAt.at h.2 j c (by simpa using hj)
    rwa [show o + 1 + j = o + (j + 1) by omega] at this

theorem RepAt.mk {w : World} {A : Nat → Prop} {b : Nat} : ∀ {cs : List T} {o : Nat}, (∀ j c, cs[j]? = some c → ∃ v, w.cell? ⟨b, o + j, none⟩ = some v ∧ RepV w A c v) → RepAt w A b o cs
  | [], _, _ => by unfold RepAt; trivial
  | d :: cs, o, h => by
    unfold RepAt
    refine ⟨h 0 d rfl, RepAt.mk fun j c hj => ?_⟩
    have := h (j + 1) c (by simpa using hj)
    rwa [show o + (j + 1) = o + 1 + j by omega] at this

theorem RepRows.at {w : World} {A : Nat → Prop} {b sz : Nat} : ∀ {rows : List (List T)} {o : Nat}, RepRows w A b o sz rows → ∀ i r, rows[i]? = some r → r.length = sz ∧ RepAt w A b (o + i * sz) r
  | [], _, _, i, r, h => by simp at h
  | d :: rest, o, h, 0, r, hj => by
    unfold RepRows at h
    simp only [List.getElem?_cons_zero, Option.some.injEq] at hj
    subst hj
    simpa using ⟨h.1, h.2.1⟩
  | d :: rest, o, h, i + 1, r, hj => by
    unfold RepRows at h
    have := RepRows.at h.2.2 i r (by simpa using hj)
    rwa [show o + sz + i * sz = o + (i + 1) * sz by rw [Nat.add_mul]; omega] at this

theorem RepRows.mk {w : World} {A : Nat → Prop} {b sz : Nat} : ∀ {rows : List (List T)} {o : Nat}, (∀ i r, rows[i]? = some r → r.length = sz ∧ RepAt w A b (o + i * sz) r) → RepRows w A b o sz rows
  | [], _, _ => by unfold RepRows; trivial
  | d :: rest, o, h => by
    unfold RepRows
    refine ⟨(h 0 d rfl).1, by simpa using (h 0 d rfl).2, RepRows.mk fun i r hi => ?_⟩
    have := h (i + 1) r (by simpa using hi)
    rwa [show o + (i + 1) * sz = o + sz + i * sz by rw [Nat.add_mul]; omega] at this

theorem RepAll.len {w : World} {A : Nat → Prop} : ∀ {cs : List T} {vs : List Value}, RepAll w A cs vs → vs.length = cs.length
  | [], vs, h => by unfold RepAll at h; subst h; rfl
  | c :: cs, vs, h => by
    unfold RepAll at h
    obtain ⟨v, vs', rfl, _, h3⟩ := h
    simp [RepAll.len h3]

theorem RepAll.at {w : World} {A : Nat → Prop} : ∀ {cs : List T} {vs : List Value}, RepAll w A cs vs → ∀ (j : Nat) c, cs[j]? = some c → ∃ v, vs[j]? = some v ∧ RepV w A c v
  | [], _, _, j, c, h => by simp at h
  | d :: cs, vs, h, 0, c, hj => by
    unfold RepAll at h
    obtain ⟨v, vs', rfl, h2, _⟩ := h
    simp only [List.getElem?_cons_zero, Option.some.injEq] at hj
    subst hj
    exact ⟨v, rfl, h2⟩
  | d :: cs, vs, h, j + 1, c, hj => by
    unfold RepAll at h
    obtain ⟨v, vs', rfl, _, h3⟩ := h
    simpa using RepAll.at h3 j c (by simpa using hj)

theorem RepAll.mk {w : World} {A : Nat → Prop} : ∀ {cs : List T} {vs : List Value}, vs.length = cs.length → (∀ (j : Nat) c v, cs[j]? = some c → vs[j]? = some v → RepV w A c v) → RepAll w A cs vs
  | [], vs, hl, _ => by unfold RepAll; exact List.length_eq_zero_iff.1 hl
  | c :: cs, [], hl, _ => by simp at hl
  | c :: cs, v :: vs, hl, h => by
    unfold RepAll
    exact ⟨v, vs, rfl, h 0 c v rfl rfl, RepAll.mk (by simpa using hl) fun j c v h1 h2 => h (j + 1) c v (by simpa using h1) (by simpa using h2)⟩

mutual
/-- The value reads as the datum; its slices lie in the blocks fp, a block each, from the block's head on, and reach to its end. -/
def OwnV (w : World) : T → Value → List Nat → Prop
  | .int k n, v, fp => v = .int k n ∧ k.min ≤ n ∧ n ≤ k.max ∧ fp = []
  | .bool b, v, fp => v = .bool b ∧ fp = []
  | .str s, v, fp => v = .string ⟨s.toArray⟩ ∧ s.length ≤ maxI ∧ fp = []
  | .sl sz rows, v, fp => ∃ ao cap, v = .slice ao rows.length cap ∧ rows.length ≤ cap ∧ cap ≤ maxI ∧ ((ao = none ∧ cap = 0 ∧ rows = [] ∧ fp = []) ∨
      ∃ b cells ty fps, ao = some ⟨b, 0, none⟩ ∧ fp = b :: fps ∧ w.heap[b]? = some (.cells cells ty (0, 0)) ∧ cells.size = cap * sz ∧ OwnRows w cells 0 sz rows fps)
  | .ptr _, _, _ => False
  | .fn _ _, _, _ => False
  | .mp _ _, _, _ => False
def OwnRows (w : World) (cells : Array Value) : Nat → Nat → List (List T) → List Nat → Prop
  | _, _, [], fps => fps = []
  | o, sz, r :: rest, fps => r.length = sz ∧ ∃ f1 f2, fps = f1 ++ f2 ∧ OwnAt w cells o r f1 ∧ OwnRows w cells (o + sz) sz rest f2
def OwnAt (w : World) (cells : Array Value) : Nat → List T → List Nat → Prop
  | _, [], fps => fps = []
  | o, c :: cs, fps => ∃ v f1 f2, cells[o]? = some v ∧ fps = f1 ++ f2 ∧ OwnV w c v f1 ∧ OwnAt w cells (o + 1) cs f2
end
def OwnAll (w : World) : List T → List Value → List Nat → Prop
  | [], vs, fps => vs = [] ∧ fps = []
  | c :: cs, vs, fps => ∃ v vs' f1 f2, vs = v :: vs' ∧ fps = f1 ++ f2 ∧ OwnV w c v f1 ∧ OwnAll w cs vs' f2

mutual
theorem OwnV.keep {w w' : World} : ∀ (t : T) (v : Value) (fp : List Nat), OwnV w t v fp → (∀ b ∈ fp, w'.heap[b]? = w.heap[b]?) → OwnV w' t v fp
  | .int _ _, _, _, h, _ => by unfold OwnV at h ⊢; exact h
  | .bool _, _, _, h, _ => by unfold OwnV at h ⊢; exact h
  | .str _, _, _, h, _ => by unfold OwnV at h ⊢; exact h
  | .sl sz rows, v, fp, h, hs => by
    unfold OwnV at h ⊢
    obtain ⟨ao, cap, h1, h2, h3, h4⟩ := h
    refine ⟨ao, cap, h1, h2, h3, ?_⟩
    rcases h4 with h4 | ⟨b, cells, ty, fps, h4, h5, h6, h7, h8⟩
    · exact Or.inl h4
    · subst h5
      exact Or.inr ⟨b, cells, ty, fps, h4, rfl, by rw [hs b (by simp)]; exact h6, h7, OwnRows.keep cells 0 sz rows fps h8 fun b' hb' => hs b' (by simp [hb'])⟩
  | .ptr _, _, _, h, _ => by unfold OwnV at h; exact h.elim
  | .fn _ _, _, _, h, _ => by unfold OwnV at h; exact h.elim
  | .mp _ _, _, _, h, _ => by unfold OwnV at h; exact h.elim
theorem OwnRows.keep {w w' : World} (cells : Array Value) : ∀ (o sz : Nat) (rows : List (List T)) (fps : List Nat), OwnRows w cells o sz rows fps → (∀ b ∈ fps, w'.heap[b]? = w.heap[b]?) → OwnRows w' cells o sz rows fps
  | _, _, [], _, h, _ => by unfold OwnRows at h ⊢; exact h
  | o, sz, r :: rest, fps, h, hs => by
    unfold OwnRows at h ⊢
    obtain ⟨h1, f1, f2, rfl, h2, h3⟩ := h
    exact ⟨h1, f1, f2, rfl, OwnAt.keep cells o r f1 h2 fun b hb => hs b (by simp [hb]), OwnRows.keep cells (o + sz) sz rest f2 h3 fun b hb => hs b (by simp [hb])⟩
theorem OwnAt.keep {w w' : World} (cells : Array Value) : ∀ (o : Nat) (cs : List T) (fps : List Nat), OwnAt w cells o cs fps → (∀ b ∈ fps, w'.heap[b]? = w.heap[b]?) → OwnAt w' cells o cs fps
  | _, [], _, h, _ => by unfold OwnAt at h ⊢; exact h
  | o, c :: cs, fps, h, hs => by
    unfold OwnAt at h ⊢
    obtain ⟨v, f1, f2, h1, rfl, h2, h3⟩ := h
    exact ⟨v, f1, f2, h1, rfl, OwnV.keep c v f1 h2 fun b hb => hs b (by simp [hb]), OwnAt.keep cells (o + 1) cs f2 h3 fun b hb => hs b (by simp [hb])⟩
end

/-- The same cells in another array. -/
theorem OwnAt.move {w : World} {cells cells' : Array Value} : ∀ {cs : List T} {o o' : Nat} {fps : List Nat}, OwnAt w cells o cs fps → (∀ j, j < cs.length → cells'[o' + j]? = cells[o + j]?) → OwnAt w cells' o' cs fps
  | [], _, _, _, h, _ => by unfold OwnAt at h ⊢; exact h
  | c :: cs, o, o', fps, h, hs => by
    unfold OwnAt at h ⊢
    obtain ⟨v, f1, f2, h1, rfl, h2, h3⟩ := h
    refine ⟨v, f1, f2, (by have := hs 0 (by simp); simp at this; rw [this]; exact h1), rfl, h2, OwnAt.move h3 fun j hj => ?_⟩
    have := hs (j + 1) (by simp; omega)
    rwa [show o' + (j + 1) = o' + 1 + j by omega, show o + (j + 1) = o + 1 + j by omega] at this
theorem OwnRows.move {w : World} {cells cells' : Array Value} {sz : Nat} : ∀ {rows : List (List T)} {o o' : Nat} {fps : List Nat}, OwnRows w cells o sz rows fps → (∀ j, j < rows.length * sz → cells'[o' + j]? = cells[o + j]?) → OwnRows w cells' o' sz rows fps
  | [], _, _, _, h, _ => by unfold OwnRows at h ⊢; exact h
  | r :: rest, o, o', fps, h, hs => by
    unfold OwnRows at h ⊢
    obtain ⟨h1, f1, f2, rfl, h2, h3⟩ := h
    refine ⟨h1, f1, f2, rfl, h2.move fun j hj => hs j (by simp [Nat.add_mul]; omega), h3.move fun j hj => ?_⟩
    have := hs (sz + j) (by simp [Nat.add_mul]; omega)
    rwa [show o' + (sz + j) = o' + sz + j by omega, show o + (sz + j) = o + sz + j by omega] at this
theorem OwnRows.append {w : World} {cells : Array Value} {sz : Nat} : ∀ {r1 r2 : List (List T)} {o : Nat} {f1 f2 : List Nat}, OwnRows w cells o sz r1 f1 → OwnRows w cells (o + r1.length * sz) sz r2 f2 → OwnRows w cells o sz (r1 ++ r2) (f1 ++ f2)
  | [], r2, o, f1, f2, h, k => by
    unfold OwnRows at h
    subst h
    simpa using k
  | r :: rest, r2, o, f1, f2, h, k => by
    unfold OwnRows at h
    obtain ⟨h1, g1, g2, rfl, h2, h3⟩ := h
    rw [List.cons_append]
    unfold OwnRows
    refine ⟨h1, g1, g2 ++ f2, by simp, h2, OwnRows.append h3 ?_⟩
    rwa [show o + sz + rest.length * sz = o + (r :: rest).length * sz by simp [Nat.add_mul]; omega]

mutual
theorem OwnV.lt {w : World} : ∀ (t : T) (v : Value) (fp : List Nat), OwnV w t v fp → ∀ b ∈ fp, b < w.heap.size
  | .int _ _, _, _, h, b, hb => by unfold OwnV at h; rw [h.2.2.2] at hb; simp at hb
  | .bool _, _, _, h, b, hb => by unfold OwnV at h; rw [h.2] at hb; simp at hb
  | .str _, _, _, h, b, hb => by unfold OwnV at h; rw [h.2.2] at hb; simp at hb
  | .sl sz rows, v, fp, h, b, hb => by
    unfold OwnV at h
    obtain ⟨ao, cap, h1, h2, h3, h4⟩ := h
    rcases h4 with ⟨_, _, _, rfl⟩ | ⟨b', cells, ty, fps, h4, h5, h6, h7, h8⟩
    · simp at hb
    · subst h5
      rcases List.mem_cons.1 hb with rfl | hb
      · exact (Array.getElem?_eq_some_iff.1 h6).1
      · exact OwnRows.lt cells 0 sz rows fps h8 b hb
  | .ptr _, _, _, h, _, _ => by unfold OwnV at h; exact h.elim
  | .fn _ _, _, _, h, _, _ => by unfold OwnV at h; exact h.elim
  | .mp _ _, _, _, h, _, _ => by unfold OwnV at h; exact h.elim
theorem OwnRows.lt {w : World} (cells : Array Value) : ∀ (o sz : Nat) (rows : List (List T)) (fps : List Nat), OwnRows w cells o sz rows fps → ∀ b ∈ fps, b < w.heap.size
  | _, _, [], _, h, b, hb => by unfold OwnRows at h; rw [h] at hb; simp at hb
  | o, sz, r :: rest, fps, h, b, hb => by
    unfold OwnRows at h
    obtain ⟨h1, f1, f2, rfl, h2, h3⟩ := h
    rcases List.mem_append.1 hb with hb | hb
    · exact OwnAt.lt cells o r f1 h2 b hb
    · exact OwnRows.lt cells (o + sz) sz rest f2 h3 b hb
theorem OwnAt.lt {w : World} (cells : Array Value) : ∀ (o : Nat) (cs : List T) (fps : List Nat), OwnAt w cells o cs fps → ∀ b ∈ fps, b < w.heap.size
  | _, [], _, h, b, hb => by unfold OwnAt at h; rw [h] at hb; simp at hb
  | o, c :: cs, fps, h, b, hb => by
    unfold OwnAt at h
    obtain ⟨v, f1, f2, h1, rfl, h2, h3⟩ := h
    rcases List.mem_append.1 hb with hb | hb
    · exact OwnV.lt c v f1 h2 b hb
    · exact OwnAt.lt cells (o + 1) cs f2 h3 b hb
end

mutual
/-- What is owned reads as it is. -/
theorem OwnV.rep {w : World} {A : Nat → Prop} : ∀ (t : T) (v : Value) (fp : List Nat), OwnV w t v fp → (∀ b ∈ fp, A b) → RepV w A t v
  | .int _ _, _, _, h, _ => by unfold OwnV at h; unfold RepV; exact ⟨h.1, h.2.1, h.2.2.1⟩
  | .bool _, _, _, h, _ => by unfold OwnV at h; unfold RepV; exact h.1
  | .str _, _, _, h, _ => by unfold OwnV at h; unfold RepV; exact ⟨h.1, h.2.1⟩
  | .sl sz rows, v, fp, h, ha => by
    unfold OwnV at h
    unfold RepV
    obtain ⟨ao, cap, h1, h2, h3, h4⟩ := h
    refine ⟨ao, cap, h1, h2, h3, ?_⟩
    rcases h4 with ⟨_, _, h4, _⟩ | ⟨b, cells, ty, fps, h4, h5, h6, h7, h8⟩
    · exact Or.inl h4
    · subst h5
      exact Or.inr ⟨b, 0, h4, ha b (by simp), OwnRows.rep b cells ty h6 0 sz rows fps h8 fun b' hb' => ha b' (by simp [hb'])⟩
  | .ptr _, _, _, h, _ => by unfold OwnV at h; exact h.elim
  | .fn _ _, _, _, h, _ => by unfold OwnV at h; exact h.elim
  | .mp _ _, _, _, h, _ => by unfold OwnV at h; exact h.elim
theorem OwnRows.rep {w : World} {A : Nat → Prop} (b : Nat) (cells : Array Value) (ty : TypeId) (hc : w.heap[b]? = some (.cells cells ty (0, 0))) : ∀ (o sz : Nat) (rows : List (List T)) (fps : List Nat), OwnRows w cells o sz rows fps → (∀ b ∈ fps, A b) → RepRows w A b o sz rows
  | _, _, [], _, _, _ => by unfold RepRows; trivial
  | o, sz, r :: rest, fps, h, ha => by
    unfold OwnRows at h
    unfold RepRows
    obtain ⟨h1, f1, f2, rfl, h2, h3⟩ := h
    exact ⟨h1, OwnAt.rep b cells ty hc o r f1 h2 fun b hb => ha b (by simp [hb]), OwnRows.rep b cells ty hc (o + sz) sz rest f2 h3 fun b hb => ha b (by simp [hb])⟩
theorem OwnAt.rep {w : World} {A : Nat → Prop} (b : Nat) (cells : Array Value) (ty : TypeId) (hc : w.heap[b]? = some (.cells cells ty (0, 0))) : ∀ (o : Nat) (cs : List T) (fps : List Nat), OwnAt w cells o cs fps → (∀ b ∈ fps, A b) → RepAt w A b o cs
  | _, [], _, _, _ => by unfold RepAt; trivial
  | o, c :: cs, fps, h, ha => by
    unfold OwnAt at h
    unfold RepAt
    obtain ⟨v, f1, f2, h1, rfl, h2, h3⟩ := h
    exact ⟨⟨v, by simp [World.cell?, hc, h1], OwnV.rep c v f1 h2 fun b hb => ha b (by simp [hb])⟩, OwnAt.rep b cells ty hc (o + 1) cs f2 h3 fun b hb => ha b (by simp [hb])⟩
end

end Go.Proofs.Ytgfjbbbkploonaa
