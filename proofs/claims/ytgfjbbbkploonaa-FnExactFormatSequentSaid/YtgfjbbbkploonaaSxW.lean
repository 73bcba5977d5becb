/-
  The walk over plain data: literal slices.
  Conditions: none.
-/
import Derived.Test.YtgfjbbbkploonaaSxV
namespace Go.Proofs.Ytgfjbbbkploonaa
set_option linter.unusedSimpArgs false
set_option linter.unusedVariables false
open Go.RowKit
variable {P : Program}

theorem fill_rows (n : Nat) : ∀ (parts : List (Nat × Value)) (k : Nat) (cells : Array Value), (∀ (j i : Nat) v, parts[j]? = some (i, v) → i = k + j ∧ v.cells.size = n) → (k + parts.length) * n ≤ cells.size →
    ∃ cells', Instr.fill (fun i => some (i * n, n)) cells parts = some cells' ∧ cells'.toList = cells.toList.take (k * n) ++ (parts.flatMap fun p => p.2.cells.toList) ++ cells.toList.drop ((k + parts.length) * n)
  | [], k, cells, _, _ => ⟨cells, rfl, by simp⟩
  | (i, v) :: rest, k, cells, h, hl => by
    obtain ⟨hik, hv⟩ := h 0 i v rfl
    obtain rfl : k = i := by omega
    have hl' : (k + (rest.length + 1)) * n ≤ cells.size := by simpa using hl
    have e1 : (k + (rest.length + 1)) * n = k * n + n + rest.length * n := by rw [Nat.add_mul, Nat.add_mul, Nat.one_mul]; omega
    have hset := setR_array cells (k * n) v.cells.toList (by simp only [Array.length_toList, hv]; omega)
    have hlen : v.cells.toList.length = n := by simpa using hv
    have hck : (cells.toList.take (k * n)).length = k * n := by simp; omega
    obtain ⟨cells', k1, k2⟩ := fill_rows n rest (k + 1) ((v.cells.toList.toArray.zipIdx).foldl (fun cs (c, j) => cs.setIfInBounds (k * n + j) c) cells) (fun j i u hu => by
      have := h (j + 1) i u (by simpa using hu); exact ⟨by omega, this.2⟩) (by
      have : (((v.cells.toList.toArray.zipIdx).foldl (fun cs (c, j) => cs.setIfInBounds (k * n + j) c) cells).toList).length = cells.size := by
        rw [hset]; simp only [List.length_append, List.length_take, List.length_drop, Array.length_toList, hv]; omega
      rw [Array.length_toList] at this
      rw [this, show k + 1 + rest.length = k + (rest.length + 1) by omega]; exact hl')
    refine ⟨cells', ?_, ?_⟩
    · have hcond : ¬ (v.cells.size ≠ n || k * n + v.cells.size > cells.size) = true := by simp [hv]; omega
      simp only [Instr.fill, if_neg hcond]
      simpa using k1
    · rw [k2, hset]
      rw [hlen]
      have e2 : (k + 1) * n = k * n + n := by rw [Nat.add_mul, Nat.one_mul]
      have e3 : (cells.toList.take (k * n) ++ v.cells.toList ++ cells.toList.drop (k * n + n)).take ((k + 1) * n) = cells.toList.take (k * n) ++ v.cells.toList := by
        rw [List.take_append_of_le_length (by rw [List.length_append, hck, hlen]; omega), List.take_of_length_le (by rw [List.length_append, hck, hlen]; omega)]
      have e4 : (cells.toList.take (k * n) ++ v.cells.toList ++ cells.toList.drop (k * n + n)).drop ((k + 1 + rest.length) * n) = cells.toList.drop ((k + (rest.length + 1)) * n) := by
        have e5 : (k + 1 + rest.length) * n = k * n + n + rest.length * n := by rw [Nat.add_mul, Nat.add_mul, Nat.one_mul]
        rw [List.drop_append, List.drop_of_length_le (by rw [List.length_append, hck, hlen]; omega), List.length_append, hck, hlen, List.drop_drop, e5, e1]
        simp only [List.nil_append]
        congr 1; omega
      rw [e3, e4]
      simp

theorem run_lit (w : World) (t e : TypeId) (len : Nat) (parts : Array (Nat × Value)) (ie : TypeInfo) (z : Value) (hu : P.underlying t = some (.slice e)) (hie : P.info? e = some ie) (hz : ie.zero = some z) (hsmall : len * ie.size ≤ 2 ^ 24)
    (hl : parts.size = len) (h : ∀ (j i : Nat) v, parts.toList[j]? = some (i, v) → i = j ∧ v.cells.size = ie.size) :
    ∃ cells, (Instr.buildSlice t len parts).run P w = .ok (.slice (some ⟨w.heap.size, 0, none⟩) len len) (w.alloc (.cells cells e)) ∧ cells.toList = parts.toList.flatMap fun p => p.2.cells.toList := by
  have hs : ¬ len * ie.size > 2 ^ 24 := by omega
  obtain ⟨cells, k1, k2⟩ := fill_rows ie.size parts.toList 0 ((Array.range (len * ie.size)).map ((if len * ie.size = 0 then #[] else z.cells)[· % (if len * ie.size = 0 then #[] else z.cells).size]!)) (fun j i v hj => by obtain ⟨e1, e2⟩ := h j i v hj; exact ⟨by omega, e2⟩) (by simp [hl])
  refine ⟨cells, ?_, ?_⟩
  · by_cases h0 : len * ie.size = 0
    · simp only [h0, if_true] at k1
      simp [Instr.buildSlice, run_underlying hu, sizeOf, typeInfo, hie, h0, newRow] at k1 ⊢
      rw [k1]
      rfl
    · simp only [h0, if_false] at k1
      simp [Instr.buildSlice, run_underlying hu, sizeOf, typeInfo, zeroValue, hie, hz, hs, h0, k1, newRow]
  · rw [k2]
    simp [hl]

/-- The rows of a literal slice, in order. -/
def rowsC (P : Program) (el : TypeId) (n : Nat) (get : TypeId → Operand → V) : Nat → List (Nat × Operand) → Option (List (List C))
  | _, [] => some []
  | k, (i, x) :: rest => if i = k ∧ (get el x).cells.length = n ∧ (get el x).cells.all C.good = true ∧ (get el x).isTup = false then (rowsC P el n get (k + 1) rest).map ((get el x).cells :: ·) else none
theorem rowsC_loc {el : TypeId} {n : Nat} {f g : TypeId → Operand → V} : ∀ {parts : List (Nat × Operand)} {k : Nat}, (∀ t, ∀ x ∈ parts.map (·.2), g t x = f t x) → rowsC P el n g k parts = rowsC P el n f k parts
  | [], _, _ => rfl
  | (i, x) :: rest, k, h => by
    unfold rowsC
    rw [h el x (by simp), rowsC_loc fun t y hy => h t y (by simp at hy ⊢; exact Or.inr hy)]
theorem rowsC_cr {n0 : Nat → Prop} {N : Nat} {σ : St} {g : Gh} {a : Act} {w : World} (hR : Rel n0 N σ g a w) {el : TypeId} {n : Nat} : ∀ {parts : List (Nat × Operand)} {k : Nat} {rs : List (List C)}, rowsC P el n (σ.get P) k parts = some rs →
    (∀ (j i : Nat) v, (parts.map fun p => (p.1, a.eval p.2))[j]? = some (i, v) → i = k + j ∧ v.cells.size = n) ∧ rs.length = parts.length ∧ CRs σ g w rs.flatten ((parts.map fun p => (p.1, a.eval p.2)).flatMap fun p => p.2.cells.toList) ∧ ∀ r ∈ rs, r.length = n
  | [], k, rs, h => by cases h; exact ⟨by simp, rfl, rfl, by simp⟩
  | (i, x) :: rest, k, rs, h => by
    unfold rowsC at h
    split at h
    · rename_i hh
      obtain ⟨h1, h2, h3, h4⟩ := hh
      obtain ⟨rs', h5, rfl⟩ := Option.map_eq_some_iff.1 h
      obtain ⟨k1, k2, k3, k4⟩ := rowsC_cr hR h5
      obtain ⟨c1, c2⟩ := hR.vcells el x h3 h4
      refine ⟨fun j i' v hj => ?_, by simp [k2], ?_, fun r hr => ?_⟩
      · cases j with
        | zero =>
          simp only [List.map_cons, List.getElem?_cons_zero, Option.some.injEq, Prod.mk.injEq] at hj
          obtain ⟨rfl, rfl⟩ := hj
          exact ⟨by omega, by rw [← h2, ← c1.len]; simp⟩
        | succ j =>
          have := k1 j i' v (by simpa using hj)
          exact ⟨by omega, this.2⟩
      · rw [List.flatten_cons, List.map_cons, List.flatMap_cons]
        exact c1.append k3
      · rcases List.mem_cons.1 hr with rfl | hr
        · exact h2
        · exact k4 r hr
    · cases h

/- What goes into a slice that owns all it holds. -/
def dpC (σ : St) : C → Option (T × List (Nat × Ev))
  | .t x => if x.flat = true then some (x, []) else none
  | .nl s => some (.sl s [], [])
  | .ow e g => (σ.ev e).bind fun x => if x.gen = g ∧ x.on = true ∧ x.deep = true then some (.sl x.sz x.rows, [(e, x)]) else none
  | _ => none
def dpCs (σ : St) : List C → Option (List T × List (Nat × Ev))
  | [] => some ([], [])
  | c :: cs => (dpC σ c).bind fun p => (dpCs σ cs).map fun q => (p.1 :: q.1, p.2 ++ q.2)
def dpRs (σ : St) : List (List C) → Option (List (List T) × List (Nat × Ev))
  | [] => some ([], [])
  | r :: rs => (dpCs σ r).bind fun p => (dpRs σ rs).map fun q => (p.1 :: q.1, p.2 ++ q.2)
def fpL (g : Gh) (l : List (Nat × Ev)) : List Nat := l.flatMap fun p => g.φ p.1
section
variable {n0 : Nat → Prop} {N : Nat} {σ : St} {g : Gh} {a : Act} {w : World} (hR : Rel n0 N σ g a w)
include hR
theorem dpC_own {c : C} {v : Value} {t : T} {l : List (Nat × Ev)} (hv : CR σ g w c v) (h : dpC σ c = some (t, l)) : OwnV w t v (fpL g l) ∧ ∀ p ∈ l, σ.ev p.1 = some p.2 ∧ p.2.on = true := by
  cases c with
  | t x =>
    simp only [dpC] at h
    split at h
    · rename_i hf
      simp only [Option.some.injEq, Prod.mk.injEq] at h
      obtain ⟨rfl, rfl⟩ := h
      refine ⟨?_, by simp⟩
      cases x <;> simp only [T.flat, Bool.false_eq_true] at hf <;> simp only [CR, RepV] at hv <;> unfold OwnV
      · exact ⟨hv.1, hv.2.1, hv.2.2, rfl⟩
      · exact ⟨hv, rfl⟩
      · exact ⟨hv.1, hv.2, rfl⟩
    · cases h
  | nl s =>
    cases h
    refine ⟨?_, by simp⟩
    unfold OwnV
    exact ⟨none, 0, hv, by simp, by simp, Or.inl ⟨rfl, rfl, rfl, rfl⟩⟩
  | ow e n =>
    simp only [dpC] at h
    obtain ⟨x, hx, h'⟩ := Option.bind_eq_some_iff.1 h
    clear h
    by_cases hh : x.gen = n ∧ x.on = true ∧ x.deep = true
    · rw [if_pos hh] at h'
      obtain ⟨rfl, ho, hd⟩ := hh
      cases h'
      refine ⟨?_, fun p hp => by simp only [List.mem_cons, List.not_mem_nil, or_false] at hp; subst hp; exact ⟨hx, ho⟩⟩
      have hE := hR.evs e x hx ho
      rw [hv.1]
      unfold OwnV
      obtain ⟨ao, cap, e1, e2, e3, e4⟩ := hE
      refine ⟨ao, cap, e1, e2, e3, ?_⟩
      simp only [fpL, List.flatMap_cons, List.flatMap_nil, List.append_nil]
      rcases e4 with e4 | ⟨b, cells, ty, fps, k1, k2, k3, k4, k5⟩
      · exact Or.inl e4
      · rw [if_pos hd] at k5
        exact Or.inr ⟨b, cells, ty, fps, k1, k2, k3, k4, k5⟩
    · rw [if_neg hh] at h'; cases h'
  | bx b o => cases h
  | el cs o => cases h
  | eo e s sz i o => cases h
  | fn f caps => cases h
  | cv v => cases h
  | any => cases h
theorem dpCs_own : ∀ {cs : List C} {vs : List Value} {ts : List T} {l : List (Nat × Ev)}, CRs σ g w cs vs → dpCs σ cs = some (ts, l) → OwnAll w ts vs (fpL g l) ∧ (∀ p ∈ l, σ.ev p.1 = some p.2 ∧ p.2.on = true) ∧ ts.length = cs.length
  | [], vs, ts, l, hv, h => by
    cases h
    exact ⟨⟨hv, rfl⟩, by simp, rfl⟩
  | c :: cs, vs, ts, l, hv, h => by
    obtain ⟨v, vs', rfl, h1, h2⟩ := hv
    unfold dpCs at h
    obtain ⟨p, e1, h⟩ := Option.bind_eq_some_iff.1 h
    obtain ⟨q, e2, h⟩ := Option.map_eq_some_iff.1 h
    obtain ⟨p1, p2⟩ := p
    obtain ⟨q1, q2⟩ := q
    simp only [Prod.mk.injEq] at h
    obtain ⟨rfl, rfl⟩ := h
    obtain ⟨k1, k2⟩ := dpC_own hR h1 e1
    obtain ⟨j1, j2, j3⟩ := dpCs_own h2 e2
    refine ⟨⟨v, vs', _, _, rfl, by simp [fpL], k1, j1⟩, fun p hp => ?_, by simp [j3]⟩
    rcases List.mem_append.1 hp with hp | hp
    · exact k2 p hp
    · exact j2 p hp
theorem dpRs_own : ∀ {rs : List (List C)} {vs : List Value} {rows : List (List T)} {l : List (Nat × Ev)}, CRs σ g w rs.flatten vs → dpRs σ rs = some (rows, l) → OwnAll w rows.flatten vs (fpL g l) ∧ (∀ p ∈ l, σ.ev p.1 = some p.2 ∧ p.2.on = true) ∧ (rows.map List.length) = rs.map List.length
  | [], vs, rows, l, hv, h => by
    cases h
    exact ⟨⟨hv, rfl⟩, by simp, rfl⟩
  | r :: rs, vs, rows, l, hv, h => by
    rw [List.flatten_cons] at hv
    obtain ⟨v1, v2, rfl, h1, h2⟩ := hv.split
    unfold dpRs at h
    obtain ⟨p, e1, h⟩ := Option.bind_eq_some_iff.1 h
    obtain ⟨q, e2, h⟩ := Option.map_eq_some_iff.1 h
    obtain ⟨p1, p2⟩ := p
    obtain ⟨q1, q2⟩ := q
    simp only [Prod.mk.injEq] at h
    obtain ⟨rfl, rfl⟩ := h
    obtain ⟨k1, k2, k3⟩ := dpCs_own hR h1 e1
    obtain ⟨j1, j2, j3⟩ := dpRs_own h2 e2
    refine ⟨by rw [List.flatten_cons, show fpL g (p2 ++ q2) = fpL g p2 ++ fpL g q2 by simp [fpL]]; exact k1.append j1, fun p hp => ?_, by simp [j3, k3]⟩
    rcases List.mem_append.1 hp with hp | hp
    · exact k2 p hp
    · exact j2 p hp
theorem fpL_nodup : ∀ {l : List (Nat × Ev)}, (∀ p ∈ l, σ.ev p.1 = some p.2 ∧ p.2.on = true) → (l.map (·.1)).Nodup → (fpL g l).Nodup
  | [], _, _ => List.nodup_nil
  | p :: l, h, hn => by
    have hO : ∀ q ∈ p :: l, σ.On q.1 := fun q hq => ⟨q.2, h q hq⟩
    rw [List.map_cons, List.nodup_cons] at hn
    show (g.φ p.1 ++ fpL g l).Nodup
    refine List.nodup_append.2 ⟨hR.nodup p.1 (hO p (by simp)), fpL_nodup (fun q hq => h q (by simp [hq])) hn.2, fun b hb c hc hbc => ?_⟩
    subst hbc
    unfold fpL at hc
    obtain ⟨q, hq, hbq⟩ := List.mem_flatMap.1 hc
    have hne : p.1 ≠ q.1 := fun e => hn.1 (by rw [e]; exact List.mem_map.2 ⟨q, hq, rfl⟩)
    exact hR.apart p.1 q.1 (hO p (by simp)) (hO q (by simp [hq])) hne b hb hbq
end

/- What a slice may hold that is only read from here on. -/
def shC (σ : St) : C → Option T
  | .t x => some x
  | .nl s => some (.sl s [])
  | .el cs 0 => some (.ptr cs)
  | .fn f [] => some (.fn f [])
  | .ow e g => (σ.ev e).bind fun x => if x.gen = g ∧ x.on = false then some (.sl x.sz x.rows) else none
  | _ => none
def shCs (σ : St) : List C → Option (List T)
  | [] => some []
  | c :: cs => (shC σ c).bind fun t => (shCs σ cs).map (t :: ·)
def shRs (σ : St) : List (List C) → Option (List (List T))
  | [] => some []
  | r :: rs => (shCs σ r).bind fun t => (shRs σ rs).map (t :: ·)
section
variable {n0 : Nat → Prop} {N : Nat} {σ : St} {g : Gh} {a : Act} {w : World} (hR : Rel n0 N σ g a w)
include hR
theorem shC_rep {c : C} {v : Value} {t : T} (hv : CR σ g w c v) (h : shC σ c = some t) : RepV w (Fix σ g w) t v := by
  unfold shC at h
  split at h
  · cases h; exact hv
  · cases h
    unfold RepV
    exact ⟨none, 0, hv, by simp, by simp, Or.inl rfl⟩
  · cases h
    obtain ⟨b, q, h1, h2, h3⟩ := hv
    unfold RepV
    exact ⟨b, q, h1, h2, h3⟩
  · cases h
    unfold RepV
    exact ⟨[], hv.1, by unfold RepAll; rfl⟩
  · obtain ⟨x, hx, h'⟩ := Option.bind_eq_some_iff.1 h
    clear h
    split at h'
    · rename_i hh
      cases h'
      have := (hR.offs _ x hx hh.2).1
      rw [hh.1] at this
      rw [hv.1]; exact this
    · cases h'
  · cases h
theorem shCs_rep : ∀ {cs : List C} {vs : List Value} {ts : List T}, CRs σ g w cs vs → shCs σ cs = some ts → RepAll w (Fix σ g w) ts vs ∧ ts.length = cs.length
  | [], vs, ts, hv, h => by cases h; unfold RepAll; exact ⟨hv, rfl⟩
  | c :: cs, vs, ts, hv, h => by
    obtain ⟨v, vs', rfl, h1, h2⟩ := hv
    unfold shCs at h
    obtain ⟨p, e1, h⟩ := Option.bind_eq_some_iff.1 h
    obtain ⟨q, e2, rfl⟩ := Option.map_eq_some_iff.1 h
    obtain ⟨j1, j2⟩ := shCs_rep h2 e2
    unfold RepAll
    exact ⟨⟨v, vs', rfl, shC_rep hR h1 e1, j1⟩, by simp [j2]⟩
theorem shRs_rep : ∀ {rs : List (List C)} {vs : List Value} {rows : List (List T)}, CRs σ g w rs.flatten vs → shRs σ rs = some rows → RepAll w (Fix σ g w) rows.flatten vs ∧ (rows.map List.length) = rs.map List.length
  | [], vs, rows, hv, h => by cases h; exact ⟨by unfold RepAll; exact hv, rfl⟩
  | r :: rs, vs, rows, hv, h => by
    rw [List.flatten_cons] at hv
    obtain ⟨v1, v2, rfl, h1, h2⟩ := hv.split
    unfold shRs at h
    obtain ⟨p, e1, h⟩ := Option.bind_eq_some_iff.1 h
    obtain ⟨q, e2, rfl⟩ := Option.map_eq_some_iff.1 h
    obtain ⟨k1, k2⟩ := shCs_rep hR h1 e1
    obtain ⟨j1, j2⟩ := shRs_rep h2 e2
    exact ⟨by rw [List.flatten_cons]; exact k1.append j1, by simp [k2, j2]⟩
end
theorem lens_of {rows : List (List T)} {rs : List (List C)} {n : Nat} (h : rows.map List.length = rs.map List.length) (hr : ∀ r ∈ rs, r.length = n) : lens n rows := fun r hr' => by
  have : r.length ∈ rows.map List.length := List.mem_map.2 ⟨r, hr', rfl⟩
  rw [h] at this
  obtain ⟨r', h1, h2⟩ := List.mem_map.1 this
  rw [← h2]; exact hr r' h1
theorem rowsC_all {el : TypeId} {n : Nat} {get : TypeId → Operand → V} : ∀ {parts : List (Nat × Operand)} {k : Nat} {rs : List (List C)}, rowsC P el n get k parts = some rs → True := fun _ => trivial

/-- A literal slice's rows, and the cells of an element. -/
def litC (P : Program) (get : TypeId → Operand → V) (t : TypeId) (len : Nat) (parts : Array (Nat × Operand)) : Option (Nat × List (List C)) :=
  (elT P t).bind fun el => (sizeT P el).bind fun n => (zeroT P el).bind fun _ => if parts.size = len ∧ len * n ≤ 16777216 ∧ len ≤ 16777216 then (rowsC P el n get 0 parts.toList).map fun rs => (n, rs) else none
theorem litC_run {σ : St} {t : TypeId} {len n : Nat} {parts : Array (Nat × Operand)} {rs : List (List C)} (h : litC P (σ.get P) t len parts = some (n, rs)) {n0 : Nat → Prop} {N : Nat} {g : Gh} {a : Act} {w : World} (hR : Rel n0 N σ g a w) :
    ∃ (cells : Array Value) (el : TypeId), (Instr.buildSlice t len (parts.map fun (i, x) => (i, a.eval x))).run P w = .ok (.slice (some ⟨w.heap.size, 0, none⟩) len len) (w.alloc (.cells cells el)) ∧ CRs σ g w rs.flatten cells.toList ∧ rs.length = len ∧ (∀ r ∈ rs, r.length = n) ∧ cells.size = len * n ∧ len ≤ 16777216 := by
  unfold litC at h
  obtain ⟨el, h1, h⟩ := Option.bind_eq_some_iff.1 h
  obtain ⟨n', h2, h⟩ := Option.bind_eq_some_iff.1 h
  obtain ⟨z, h3, h⟩ := Option.bind_eq_some_iff.1 h
  split at h
  · rename_i hh
    obtain ⟨rs', h4, h⟩ := Option.map_eq_some_iff.1 h
    simp only [Prod.mk.injEq] at h
    obtain ⟨rfl, rfl⟩ := h
    obtain ⟨i, zv, i1, i2, _⟩ := zeroT_eq h3
    have hin : i.size = n' := by unfold sizeT at h2; rw [i1] at h2; simpa using h2
    obtain ⟨k1, k2, k3, k4⟩ := rowsC_cr hR h4
    have hpl : (parts.map fun (i, x) => (i, a.eval x)).toList = parts.toList.map fun p => (p.1, a.eval p.2) := by simp
    obtain ⟨cells, c1, c2⟩ := run_lit (P := P) w t el len (parts.map fun (i, x) => (i, a.eval x)) i zv (elT_under h1) i1 i2 (by rw [hin]; simpa using hh.2.1) (by simp [hh.1]) (fun j i' v hj => by
      rw [hpl] at hj
      have := k1 j i' v hj
      exact ⟨by omega, by rw [hin]; exact this.2⟩)
    rw [hpl] at c2
    rw [← c2] at k3
    refine ⟨cells, el, c1, k3, by rw [k2]; simpa using hh.1, k4, ?_, hh.2.2⟩
    have hl := k3.len
    rw [Array.length_toList] at hl
    rw [hl]
    have : ∀ l : List (List C), (∀ r ∈ l, r.length = n') → l.flatten.length = l.length * n' := by
      intro l
      induction l with
      | nil => intro _; simp
      | cons r l ih => intro hr; simp [hr r (by simp), ih fun x hx => hr x (by simp [hx]), Nat.add_mul]; omega
    rw [this rs' k4, k2]
    congr 1
    simpa using hh.1
  · cases h

section
variable {ty : TypeId} {ps : String} {af : Array Edge} {d : Nat} {σ : St} {t : TypeId} {len n : Nat} {parts : Array (Nat × Operand)} {rs : List (List C)} {rows : List (List T)} {cons : List (Nat × Ev)}
theorem s_buildD (h : litC P (σ.get P) t len parts = some (n, rs) ∧ dpRs σ rs = some (rows, cons) ∧ σ.ev (d * 32) = none ∧ (cons.map (·.1)).Nodup) :
    StepSem P ⟨some d, .buildSlice t len parts, ty, ps, af, none⟩ σ ((σ.apd (d * 32) cons ⟨true, n, rows, 0, true⟩).put (some d) (.one (.ow (d * 32) 0))) := by
  intro n0 N g a w hR hn hdN
  obtain ⟨h1, h2, h3, h4⟩ := h
  obtain ⟨cells, el, c1, c2, c3, c4, c5, c6⟩ := litC_run h1 hR
  obtain ⟨o1, o2, o3⟩ := dpRs_own hR c2 h2
  have hlen : rows.length = len := by rw [← c3]; simpa using congrArg List.length o3
  have hl := lens_of o3 c4
  have hvl := o1.len
  have hfl : rows.flatten.length = len * n := by rw [lens_flat hl, hlen]
  obtain ⟨g', r1, r2, r3, r4⟩ := hR.newown hn (e := d * 32) h3 (cons := cons) (fun p hp => ⟨(o2 p hp).1, (o2 p hp).2, fun e => by have := (o2 p hp).1; rw [e, h3] at this; cases this⟩) (sz := n) (rows := rows) (vs := cells.toList) hl (dp := true) (by simp) (fun _ => o1) (by simp) (fpL_nodup hR o2 h4) (fun b hb => by
    unfold fpL at hb
    obtain ⟨p, hp, hbp⟩ := List.mem_flatMap.1 hb
    exact ⟨p, hp, hbp⟩) cells el len (by rw [c5]) (by omega) (by unfold maxI; omega) (List.take_of_length_le (by rw [hlen, Array.length_toList, c5]; omega))
  rw [hlen] at r2
  have hrun : (execOp a.eval ⟨some d, .buildSlice t len parts, ty, ps, af, none⟩).run P w = .ok (.value (.slice (some ⟨w.heap.size, 0, none⟩) len len)) (w.alloc (.cells cells el)) := by
    unfold execOp
    simp only [Sem.run_bind, c1, Result.andThen_ok, Sem.run_pure]
  unfold Oper.wp
  rw [hrun]
  refine ⟨g', r1.put (some d) (x := .one (.ow (d * 32) 0)) ⟨r2, ⟨true, n, rows, 0, true⟩, by simp [St.apd, upd_same], Nat.le_refl _⟩ hdN, ?_, r3, r4⟩
  exact ⟨rfl, rfl, rfl, by simp, fun k hk => Below.heap_alloc w _ k (hn k hk)⟩
theorem s_buildS (h : litC P (σ.get P) t len parts = some (n, rs) ∧ shRs σ rs = some rows ∧ σ.ev (d * 32) = none) :
    StepSem P ⟨some d, .buildSlice t len parts, ty, ps, af, none⟩ σ ((σ.apd (d * 32) [] ⟨false, n, rows, 0, true⟩).put (some d) (.one (.ow (d * 32) 0))) := by
  intro n0 N g a w hR hn hdN
  obtain ⟨h1, h2, h3⟩ := h
  obtain ⟨cells, el, c1, c2, c3, c4, c5, c6⟩ := litC_run h1 hR
  obtain ⟨o1, o3⟩ := shRs_rep hR c2 h2
  have hlen : rows.length = len := by rw [← c3]; simpa using congrArg List.length o3
  have hl := lens_of o3 c4
  obtain ⟨g', r1, r2, r3, r4⟩ := hR.newown hn (e := d * 32) h3 (cons := []) (by simp) (sz := n) (rows := rows) (vs := cells.toList) hl (dp := false) (fun _ => o1) (by simp) (fun _ => rfl) List.nodup_nil (by simp) cells el len (by rw [c5]) (by omega) (by unfold maxI; omega) (List.take_of_length_le (by rw [hlen, Array.length_toList, c5]; omega))
  rw [hlen] at r2
  have hrun : (execOp a.eval ⟨some d, .buildSlice t len parts, ty, ps, af, none⟩).run P w = .ok (.value (.slice (some ⟨w.heap.size, 0, none⟩) len len)) (w.alloc (.cells cells el)) := by
    unfold execOp
    simp only [Sem.run_bind, c1, Result.andThen_ok, Sem.run_pure]
  unfold Oper.wp
  rw [hrun]
  refine ⟨g', r1.put (some d) (x := .one (.ow (d * 32) 0)) ⟨r2, ⟨false, n, rows, 0, true⟩, by simp [St.apd, upd_same], Nat.le_refl _⟩ hdN, ?_, r3, r4⟩
  exact ⟨rfl, rfl, rfl, by simp, fun k hk => Below.heap_alloc w _ k (hn k hk)⟩
variable {ks : List Fr} {Q : Exit → St → Prop} {ops : Array Oper} {os : List Oper} {L : List (List Ky × List Ky)}
/-- A literal slice that owns all it holds. -/
theorem buildD (h : litC P (σ.get P) t len parts = some (n, rs) ∧ dpRs σ rs = some (rows, cons) ∧ σ.ev (d * 32) = none ∧ (cons.map (·.1)).Nodup)
    (k : exo P ops os ks Q ((σ.apd (d * 32) cons ⟨true, n, rows, 0, true⟩).put (some d) (.one (.ow (d * 32) 0)))) : exo P ops (⟨some d, .buildSlice t len parts, ty, ps, af, none⟩ :: os) ks Q σ := exo_sem rfl rfl (s_buildD h) k
/-- A literal slice of cells that are only read. -/
theorem buildS (h : litC P (σ.get P) t len parts = some (n, rs) ∧ shRs σ rs = some rows ∧ σ.ev (d * 32) = none)
    (k : exo P ops os ks Q ((σ.apd (d * 32) [] ⟨false, n, rows, 0, true⟩).put (some d) (.one (.ow (d * 32) 0)))) : exo P ops (⟨some d, .buildSlice t len parts, ty, ps, af, none⟩ :: os) ks Q σ := exo_sem rfl rfl (s_buildS h) k

/- The places that rows lean on. -/
def rK : List (List C) → List Ky
  | [] => []
  | r :: rs => c0sK r ++ rK rs
theorem rK_ok : ∀ rs, okK (rK rs) = true
  | [] => rfl
  | r :: rs => okK_app (c0sK_ok r) (rK_ok rs)
theorem dpC_loc {σ1 : St} {c : C} (h : ∀ k ∈ c0K c, sameK σ σ1 k) : dpC σ1 c = dpC σ c := by
  cases c with
  | ow e g => simp only [dpC]; rw [show σ1.ev e = σ.ev e from Eq.symm (h (2, e) (by simp [c0K]))]
  | _ => rfl
theorem dpCs_loc {σ1 : St} : ∀ {cs : List C}, (∀ k ∈ c0sK cs, sameK σ σ1 k) → dpCs σ1 cs = dpCs σ cs
  | [], _ => rfl
  | c :: cs, h => by unfold dpCs; rw [dpC_loc fun k hk => h k (by simp [c0sK, hk]), dpCs_loc fun k hk => h k (by simp [c0sK, hk])]
theorem dpRs_loc {σ1 : St} : ∀ {rs : List (List C)}, (∀ k ∈ rK rs, sameK σ σ1 k) → dpRs σ1 rs = dpRs σ rs
  | [], _ => rfl
  | r :: rs, h => by unfold dpRs; rw [dpCs_loc fun k hk => h k (by simp [rK, hk]), dpRs_loc fun k hk => h k (by simp [rK, hk])]
theorem shC_loc {σ1 : St} {c : C} (h : ∀ k ∈ c0K c, sameK σ σ1 k) : shC σ1 c = shC σ c := by
  cases c with
  | ow e g => simp only [shC]; rw [show σ1.ev e = σ.ev e from Eq.symm (h (2, e) (by simp [c0K]))]
  | el cs o => cases o <;> rfl
  | fn f caps => cases caps <;> rfl
  | _ => rfl
theorem shCs_loc {σ1 : St} : ∀ {cs : List C}, (∀ k ∈ c0sK cs, sameK σ σ1 k) → shCs σ1 cs = shCs σ cs
  | [], _ => rfl
  | c :: cs, h => by unfold shCs; rw [shC_loc fun k hk => h k (by simp [c0sK, hk]), shCs_loc fun k hk => h k (by simp [c0sK, hk])]
theorem shRs_loc {σ1 : St} : ∀ {rs : List (List C)}, (∀ k ∈ rK rs, sameK σ σ1 k) → shRs σ1 rs = shRs σ rs
  | [], _ => rfl
  | r :: rs, h => by unfold shRs; rw [shCs_loc fun k hk => h k (by simp [rK, hk]), shRs_loc fun k hk => h k (by simp [rK, hk])]
theorem litC_loc {f g : TypeId → Operand → V} (h : ∀ t, ∀ x ∈ parts.toList.map (·.2), g t x = f t x) : litC P g t len parts = litC P f t len parts := by
  unfold litC
  congr 1; funext el; congr 1; funext n; congr 1; funext z
  rw [rowsC_loc h]
theorem dBuildD (h : litC P (σ.get P) t len parts = some (n, rs) ∧ dpRs σ rs = some (rows, cons) ∧ σ.ev (d * 32) = none ∧ (cons.map (·.1)).Nodup)
    (k : exd P ops os (L ++ [(keysOf (parts.toList.map (·.2)) ++ (rK rs ++ [(2, d * 32)]), dK (some d) ++ eK ((d * 32, ⟨true, n, rows, 0, true⟩) :: offL cons))]) ks Q ((σ.apd (d * 32) cons ⟨true, n, rows, 0, true⟩).put (some d) (.one (.ow (d * 32) 0)))) :
    exd P ops (⟨some d, .buildSlice t len parts, ty, ps, af, none⟩ :: os) L ks Q σ := by
  refine exd_of rfl rfl ?_ k
  rw [apd_eq]
  refine LocS.of (o := ⟨some d, _, ty, ps, af, none⟩) (R := keysOf (parts.toList.map (·.2)) ++ (rK rs ++ [(2, d * 32)])) (okK_app (keysOf_ok _) (okK_app (rK_ok _) rfl)) fun σ1 h1 => ?_
  rw [← apd_eq]
  have e1 : litC P (σ1.get P) t len parts = litC P (σ.get P) t len parts := litC_loc fun t x hx => get_loc (fun k hk => h1 k (by simp [hk])) hx t
  have e2 : dpRs σ1 rs = dpRs σ rs := dpRs_loc fun k hk => h1 k (by simp [hk])
  exact s_buildD ⟨e1.trans h.1, e2.trans h.2.1, (Eq.symm (h1 (2, d * 32) (by simp))).trans h.2.2.1, h.2.2.2⟩
theorem dBuildS (h : litC P (σ.get P) t len parts = some (n, rs) ∧ shRs σ rs = some rows ∧ σ.ev (d * 32) = none)
    (k : exd P ops os (L ++ [(keysOf (parts.toList.map (·.2)) ++ (rK rs ++ [(2, d * 32)]), dK (some d) ++ eK ((d * 32, ⟨false, n, rows, 0, true⟩) :: offL []))]) ks Q ((σ.apd (d * 32) [] ⟨false, n, rows, 0, true⟩).put (some d) (.one (.ow (d * 32) 0)))) :
    exd P ops (⟨some d, .buildSlice t len parts, ty, ps, af, none⟩ :: os) L ks Q σ := by
  refine exd_of rfl rfl ?_ k
  rw [apd_eq]
  refine LocS.of (o := ⟨some d, _, ty, ps, af, none⟩) (R := keysOf (parts.toList.map (·.2)) ++ (rK rs ++ [(2, d * 32)])) (okK_app (keysOf_ok _) (okK_app (rK_ok _) rfl)) fun σ1 h1 => ?_
  rw [← apd_eq]
  have e1 : litC P (σ1.get P) t len parts = litC P (σ.get P) t len parts := litC_loc fun t x hx => get_loc (fun k hk => h1 k (by simp [hk])) hx t
  have e2 : shRs σ1 rs = shRs σ rs := shRs_loc fun k hk => h1 k (by simp [hk])
  exact s_buildS ⟨e1.trans h.1, e2.trans h.2.1, (Eq.symm (h1 (2, d * 32) (by simp))).trans h.2.2⟩
end
attribute [go_sem] rK offL St.apd offs Ev.off St.frz St.upE upsE
end Go.Proofs.Ytgfjbbbkploonaa
