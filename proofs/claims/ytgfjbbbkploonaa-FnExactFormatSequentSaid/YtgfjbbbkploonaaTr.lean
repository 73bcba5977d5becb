/-
  What a row's reading of an argument gives: the reading of plain data.
  Conditions: none.
-/
import Derived.Test.YtgfjbbbkploonaaSxC
import Derived.ProofKit
namespace Go.Proofs.Ytgfjbbbkploonaa
set_option linter.unusedSimpArgs false
set_option linter.unusedVariables false
open Go.RowKit

/-- A plain datum as a tree. -/
inductive PD where
  | int (n : Int)
  | bool (b : Bool)
  | str (s : List UInt8)
  | sl (sz : Nat) (xs : List PD)
  | st (fs : List PD)
mutual
/-- Its cells. -/
def PD.cells : PD → List T
  | .int n => [.int .i64 n]
  | .bool b => [.bool b]
  | .str s => [.str s]
  | .sl sz xs => [.sl sz (PD.rows xs)]
  | .st fs => PD.flat fs
def PD.rows : List PD → List (List T)
  | [] => []
  | x :: xs => x.cells :: PD.rows xs
def PD.flat : List PD → List T
  | [] => []
  | x :: xs => x.cells ++ PD.flat xs
end
theorem PD.rows_map (xs : List PD) : PD.rows xs = xs.map PD.cells := by
  induction xs with
  | nil => rfl
  | cons x xs ih => rw [PD.rows, ih]; rfl
theorem repAll_append {w : World} {A : Nat → Prop} : ∀ {t1 t2 : List T} {v1 v2 : List Value}, RepAll w A t1 v1 → RepAll w A t2 v2 → RepAll w A (t1 ++ t2) (v1 ++ v2)
  | [], _, v1, _, h, k => by unfold RepAll at h; subst h; exact k
  | t :: ts, _, v1, _, h, k => by
    unfold RepAll at h
    obtain ⟨v, vs', rfl, h1, h2⟩ := h
    rw [List.cons_append, List.cons_append]
    unfold RepAll
    exact ⟨v, _, rfl, h1, repAll_append h2 k⟩
theorem repAll_one {w : World} {A : Nat → Prop} {t : T} {v : Value} (h : RepV w A t v) : RepAll w A [t] [v] := by
  unfold RepAll
  exact ⟨v, [], rfl, h, by unfold RepAll; rfl⟩
/-- The fields lie one behind the other, from offset o to n, their types among ok. -/
def fieldsOk (P : Program) (ok : TypeId → Bool) : List Field → Nat → Nat → Bool
  | [], o, n => o == n
  | f :: fs, o, n => f.offset == o && ok f.type && fieldsOk P ok fs (o + P.cellsOf f.type) n
/-- A type of plain data: int, bool, string, slice, struct. -/
def typeOk (P : Program) (ok : TypeId → Bool) (t : TypeId) : Bool :=
  match P.underlying t with
  | some (.int k) => k == .i64
  | some .bool | some .string => true
  | some (.slice e) => ok e && decide (0 < P.cellsOf e)
  | some (.struct fs) => fieldsOk P ok fs.toList 0 (P.cellsOf t)
  | _ => false

mutual
/-- The datum is of the type. -/
def Shape (P : Program) : TypeId → PD → Prop
  | t, .int _ => P.underlying t = some (.int .i64)
  | t, .bool _ => P.underlying t = some .bool
  | t, .str _ => P.underlying t = some .string
  | t, .sl sz xs => ∃ e, P.underlying t = some (.slice e) ∧ sz = P.cellsOf e ∧ ShapeL P e xs
  | t, .st fs => ∃ fl, P.underlying t = some (.struct fl) ∧ ShapeF P (fl.toList.map (·.type)) fs
def ShapeL (P : Program) : TypeId → List PD → Prop
  | _, [] => True
  | e, x :: xs => Shape P e x ∧ ShapeL P e xs
def ShapeF (P : Program) : List TypeId → List PD → Prop
  | ts, [] => ts = []
  | ts, x :: xs => ∃ t ts', ts = t :: ts' ∧ Shape P t x ∧ ShapeF P ts' xs
end

theorem ShapeL.of_mem {P : Program} {e : TypeId} : ∀ {xs : List PD}, (∀ x ∈ xs, Shape P e x) → ShapeL P e xs
  | [], _ => by simp [ShapeL]
  | x :: xs, h => by rw [ShapeL]; exact ⟨h x (by simp), ShapeL.of_mem fun y hy => h y (by simp [hy])⟩
theorem ShapeL.mem {P : Program} {e : TypeId} : ∀ {xs : List PD}, ShapeL P e xs → ∀ x ∈ xs, Shape P e x
  | [], _, x, hx => by simp at hx
  | y :: xs, h, x, hx => by
    rw [ShapeL] at h
    rcases List.mem_cons.1 hx with rfl | hx
    · exact h.1
    · exact ShapeL.mem h.2 x hx

theorem build_list {α : Type} (n : Nat) (p : Nat → α → Prop) (h : ∀ i, i < n → ∃ a, p i a) : ∃ l : List α, l.length = n ∧ ∀ i (hi : i < l.length), p i l[i] := by
  induction n with
  | zero => exact ⟨[], rfl, fun i hi => by simp at hi⟩
  | succ n ih =>
    obtain ⟨l, h1, h2⟩ := ih fun i hi => h i (by omega)
    obtain ⟨a, ha⟩ := h n (by omega)
    refine ⟨l ++ [a], by simp [h1], fun i hi => ?_⟩
    rcases Nat.lt_or_ge i l.length with hl | hl
    · rw [List.getElem_append_left hl]; exact h2 i hl
    · have : i = n := by simp at hi; omega
      subst this
      rw [List.getElem_append_right (by omega)]
      simpa [h1] using ha

section
variable {H : Type} {enc : TypeId × Value → H} {P : Program} {w : World} {ok : TypeId → Bool}

theorem rep_fields {n : Nat} (ih : ∀ t cs x, ok t = true → DataW.trod enc P w 0 (fun _ => true) true n t cs = some x → ∃ d : PD, RepAll w (· < w.heap.size) d.cells cs ∧ Shape P t d) : ∀ (fs : List Field) (o m : Nat) (cs : List Value), fieldsOk P ok fs o m = true → cs.length = m →
    (∀ f ∈ fs, ∃ x, DataW.trod enc P w 0 (fun _ => true) true n f.type ((cs.drop f.offset).take (P.cellsOf f.type)) = some x) → ∃ ds : List PD, RepAll w (· < w.heap.size) (PD.flat ds) (cs.drop o) ∧ ShapeF P (fs.map (·.type)) ds
  | [], o, m, cs, h, hl, _ => by
    rw [fieldsOk, beq_iff_eq] at h
    exact ⟨[], by rw [PD.flat, List.drop_of_length_le (by omega)]; unfold RepAll; rfl, by rw [List.map_nil, ShapeF]⟩
  | f :: fs, o, m, cs, h, hl, hx => by
    rw [fieldsOk, Bool.and_eq_true, Bool.and_eq_true, beq_iff_eq] at h
    obtain ⟨⟨h1, h2⟩, h3⟩ := h
    obtain ⟨x, hx0⟩ := hx f (by simp)
    obtain ⟨d, hd1, hd2⟩ := ih _ _ _ h2 hx0
    obtain ⟨ds, hs1, hs2⟩ := rep_fields ih fs _ m cs h3 hl fun g hg => hx g (by simp [hg])
    refine ⟨d :: ds, ?_, ?_⟩
    · rw [PD.flat]
      have := repAll_append hd1 hs1
      rw [h1, ← List.drop_drop, List.take_append_drop] at this
      exact this
    · rw [List.map_cons, ShapeF]
      exact ⟨_, _, rfl, hd2, hs2⟩

/-- An argument's reading by the row is a reading of a plain tree. -/
theorem rep_of_trod (hclosed : ∀ t, ok t = true → typeOk P ok t = true) : ∀ (fuel : Nat) (t : TypeId) (cs : List Value) (x : DataW H × List MemPlace), ok t = true → DataW.trod enc P w 0 (fun _ => true) true fuel t cs = some x →
    ∃ d : PD, RepAll w (· < w.heap.size) d.cells cs ∧ Shape P t d := by
  intro fuel
  induction fuel with
  | zero => intro t cs x _ h; simp [DataW.trod] at h
  | succ n ih =>
    intro t cs x hok h
    have ht := hclosed t hok
    unfold typeOk at ht
    split at ht
    · rename_i k hu
      have hk : k = .i64 := by simpa using ht
      subst hk
      obtain ⟨z, rfl, rfl, hw⟩ := DataW.trod_int hu h
      refine ⟨.int z, ?_, ?_⟩
      · rw [PD.cells]
        refine repAll_one ?_
        unfold RepV
        simp [Lit.wf, IntKind.min, IntKind.max, IntKind.bits, IntKind.signed] at hw
        have m1 : IntKind.min .i64 = -9223372036854775808 := by decide
        have m2 : IntKind.max .i64 = 9223372036854775807 := by decide
        exact ⟨rfl, by omega, by omega⟩
      · rw [Shape]; exact hu
    · rename_i hu
      obtain ⟨b, rfl, rfl⟩ := DataW.trod_bool hu h
      exact ⟨.bool b, by rw [PD.cells]; exact repAll_one (by unfold RepV; rfl), by rw [Shape]; exact hu⟩
    · rename_i hu
      obtain ⟨s, rfl, rfl, hs⟩ := DataW.trod_string hu h
      unfold maxLen at hs
      have hz : s.data.toList.length = s.size := by rw [Array.length_toList]; rfl
      refine ⟨.str s.data.toList, ?_, by rw [Shape]; exact hu⟩
      rw [PD.cells]
      refine repAll_one ?_
      unfold RepV
      exact ⟨rfl, by rw [hz]; omega⟩
    · rename_i e hu
      rw [Bool.and_eq_true, decide_eq_true_eq] at ht
      obtain ⟨he, hc⟩ := ht
      rcases DataW.trod_slice hu h with ⟨rfl, _⟩ | ⟨a, len, cap, elems, rest, m, hm, rfl, _, _, hl, hcap, hel, hat, _⟩
      · refine ⟨.sl (P.cellsOf e) [], ?_, ?_⟩
        · rw [PD.cells, PD.rows]
          refine repAll_one ?_
          unfold RepV
          exact ⟨none, 0, rfl, Nat.le_refl _, by omega, Or.inl rfl⟩
        · rw [Shape]; exact ⟨e, hu, rfl, by rw [ShapeL]; trivial⟩
      · obtain rfl : n = m := by omega
        unfold maxLen at hcap
        have hone : ∀ i, i < len → ∃ p : PD × List Value, p.2.length = P.cellsOf e ∧ (∀ j, j < P.cellsOf e → w.cell? ((a.add (i * P.cellsOf e)).add j) = p.2[j]?) ∧ RepAll w (· < w.heap.size) p.1.cells p.2 ∧ Shape P e p.1 := by
          intro i hi
          have h1 := hat i hi
          rw [List.getElem?_eq_getElem (by omega)] at h1
          obtain ⟨cs', hc1, hc2⟩ := Option.bind_eq_some_iff.1 h1
          obtain ⟨_, hlen, hcell⟩ := World.cells?_some hc1
          obtain ⟨d, hd1, hd2⟩ := ih e cs' _ he hc2
          exact ⟨(d, cs'), hlen, hcell, hd1, hd2⟩
        obtain ⟨l, hl1, hl2⟩ := build_list len _ hone
        refine ⟨.sl (P.cellsOf e) (l.map (·.1)), ?_, ?_⟩
        · rw [PD.cells, PD.rows_map]
          refine repAll_one ?_
          unfold RepV
          refine ⟨some a, cap, by simp [hl1], by simp; omega, by omega, ?_⟩
          by_cases hz : len = 0
          · left; rw [List.eq_nil_of_length_eq_zero (by omega : l.length = 0)]; rfl
          · right
            have h0 := hl2 0 (by omega)
            have hcell0 := h0.2.1 0 hc
            rw [List.getElem?_eq_getElem (by rw [h0.1]; exact hc)] at hcell0
            simp only [Nat.zero_mul, Addr.add, if_true] at hcell0
            have hsp : a.spot = none ∧ a.block < w.heap.size := by
              unfold World.cell? at hcell0
              split at hcell0
              · rename_i hb
                refine ⟨?_, (Array.getElem?_eq_some_iff.1 hb).1⟩
                cases hs : a.spot with
                | none => rfl
                | some s => simp [hs] at hcell0
              · cases hcell0
            obtain ⟨b, o, sp⟩ := a
            simp only at hsp
            obtain ⟨rfl, hlt⟩ := hsp
            refine ⟨b, o, rfl, hlt, RepRows.mk fun i r hi => ?_⟩
            simp only [List.getElem?_map, Option.map_eq_some_iff] at hi
            obtain ⟨y, ⟨p, hp, rfl⟩, rfl⟩ := hi
            obtain ⟨hi', rfl⟩ := List.getElem?_eq_some_iff.1 hp
            have h1 := hl2 i hi'
            refine ⟨h1.2.2.1.len ▸ h1.1, RepAt.mk fun j c hj => ?_⟩
            obtain ⟨v, hv1, hv2⟩ := h1.2.2.1.at j c hj
            refine ⟨v, ?_, hv2⟩
            have hjj : j < P.cellsOf e := by
              have := (List.getElem?_eq_some_iff.1 hv1).1
              rw [h1.1] at this; exact this
            rw [← hv1, ← h1.2.1 j hjj]
            congr 1
            simp only [Addr.add]
            split <;> split <;> simp_all [Nat.add_assoc]
        · rw [Shape]
          refine ⟨e, hu, rfl, ShapeL.of_mem fun x hx => ?_⟩
          obtain ⟨y, hy, rfl⟩ := List.mem_map.1 hx
          obtain ⟨i, hi, rfl⟩ := List.mem_iff_getElem.1 hy
          exact (hl2 i hi).2.2.2
    · rename_i fs hu
      obtain ⟨xs, m, hm, _, hlen, hxs, hf⟩ := DataW.trod_struct hu h
      obtain rfl : n = m := by omega
      obtain ⟨ds, h1, h2⟩ := rep_fields ih fs.toList 0 (P.cellsOf t) cs ht hlen fun f hfm => by
        obtain ⟨i, hi, rfl⟩ := List.mem_iff_getElem.1 hfm
        have := hf i fs[i] (by simp at hi; simp [hi])
        refine ⟨xs[i]'(by simp at hi; omega), ?_⟩
        rw [List.getElem?_eq_getElem (by simp at hi; omega)] at this
        simpa using this
      refine ⟨.st ds, ?_, ?_⟩
      · rw [PD.cells]; simpa using h1
      · rw [Shape]; exact ⟨fs, hu, by simpa using h2⟩
    · cases ht
end

theorem Shape.int {P : Program} {t : TypeId} {d : PD} (h : Shape P t d) (hu : P.underlying t = some (.int .i64)) : ∃ n, d = .int n := by
  cases d with
  | int n => exact ⟨n, rfl⟩
  | bool b => rw [Shape, hu] at h; cases h
  | str s => rw [Shape, hu] at h; cases h
  | sl sz xs => rw [Shape] at h; obtain ⟨e, h1, _⟩ := h; rw [hu] at h1; cases h1
  | st fs => rw [Shape] at h; obtain ⟨e, h1, _⟩ := h; rw [hu] at h1; cases h1
theorem Shape.bool {P : Program} {t : TypeId} {d : PD} (h : Shape P t d) (hu : P.underlying t = some .bool) : ∃ n, d = .bool n := by
  cases d with
  | int n => rw [Shape, hu] at h; cases h
  | bool b => exact ⟨b, rfl⟩
  | str s => rw [Shape, hu] at h; cases h
  | sl sz xs => rw [Shape] at h; obtain ⟨e, h1, _⟩ := h; rw [hu] at h1; cases h1
  | st fs => rw [Shape] at h; obtain ⟨e, h1, _⟩ := h; rw [hu] at h1; cases h1
theorem Shape.str {P : Program} {t : TypeId} {d : PD} (h : Shape P t d) (hu : P.underlying t = some .string) : ∃ n, d = .str n := by
  cases d with
  | int n => rw [Shape, hu] at h; cases h
  | bool b => rw [Shape, hu] at h; cases h
  | str s => exact ⟨s, rfl⟩
  | sl sz xs => rw [Shape] at h; obtain ⟨e, h1, _⟩ := h; rw [hu] at h1; cases h1
  | st fs => rw [Shape] at h; obtain ⟨e, h1, _⟩ := h; rw [hu] at h1; cases h1
theorem Shape.sl {P : Program} {t e : TypeId} {d : PD} (h : Shape P t d) (hu : P.underlying t = some (.slice e)) : ∃ xs, d = .sl (P.cellsOf e) xs ∧ ∀ x ∈ xs, Shape P e x := by
  cases d with
  | int n => rw [Shape, hu] at h; cases h
  | bool b => rw [Shape, hu] at h; cases h
  | str s => rw [Shape, hu] at h; cases h
  | sl sz xs =>
    rw [Shape] at h
    obtain ⟨e', h1, h2, h3⟩ := h
    rw [hu] at h1
    cases h1
    exact ⟨xs, by rw [h2], h3.mem⟩
  | st fs => rw [Shape] at h; obtain ⟨e, h1, _⟩ := h; rw [hu] at h1; cases h1
theorem Shape.st {P : Program} {t : TypeId} {fl : Array Field} {d : PD} (h : Shape P t d) (hu : P.underlying t = some (.struct fl)) : ∃ fs, d = .st fs ∧ ShapeF P (fl.toList.map (·.type)) fs := by
  cases d with
  | int n => rw [Shape, hu] at h; cases h
  | bool b => rw [Shape, hu] at h; cases h
  | str s => rw [Shape, hu] at h; cases h
  | sl sz xs => rw [Shape] at h; obtain ⟨e, h1, _⟩ := h; rw [hu] at h1; cases h1
  | st fs => rw [Shape] at h; obtain ⟨e, h1, h2⟩ := h; rw [hu] at h1; cases h1; exact ⟨fs, rfl, h2⟩

/-- A list whose members are all of a form. -/
theorem list_form {α : Type} (f : α → PD) : ∀ (xs : List PD), (∀ x ∈ xs, ∃ a, x = f a) → ∃ l : List α, xs = l.map f
  | [], _ => ⟨[], rfl⟩
  | x :: xs, h => by
    obtain ⟨a, rfl⟩ := h x (by simp)
    obtain ⟨l, rfl⟩ := list_form f xs fun y hy => h y (by simp [hy])
    exact ⟨a :: l, rfl⟩

end Go.Proofs.Ytgfjbbbkploonaa
