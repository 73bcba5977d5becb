/-
  The walk over plain data: append.
  Conditions: none.
-/
import Derived.Test.YtgfjbbbkploonaaSxL
namespace Go.Proofs.Ytgfjbbbkploonaa
set_option linter.unusedSimpArgs false
set_option linter.unusedVariables false
open Go.RowKit
variable {P : Program}

def V.map (f : C → C) : V → V
  | .one c => .one (f c)
  | .agg cs => .agg (cs.map f)
  | .tup xs => .tup (xs.map fun x => (x.1, x.2.map f))

theorem CRs.map {σ σ' : St} {g g' : Gh} {w w' : World} {f : C → C} (hf : ∀ c v, CR σ g w c v → CR σ' g' w' (f c) v) : ∀ {cs : List C} {vs : List Value}, CRs σ g w cs vs → CRs σ' g' w' (cs.map f) vs
  | [], vs, h => h
  | c :: cs, vs, h => by obtain ⟨v, vs', rfl, h1, h2⟩ := h; exact ⟨v, vs', rfl, hf c v h1, CRs.map hf h2⟩
theorem CRt.map {σ σ' : St} {g g' : Gh} {w w' : World} {f : C → C} (hf : ∀ c v, CR σ g w c v → CR σ' g' w' (f c) v) : ∀ {xs : List (Bool × List C)} {vs : List Value}, CRt σ g w xs vs → CRt σ' g' w' (xs.map fun x => (x.1, x.2.map f)) vs
  | [], vs, h => h
  | x :: xs, vs, h => by
    obtain ⟨v, vs', rfl, h1, h2⟩ := h
    refine ⟨v, vs', rfl, ?_, CRt.map hf h2⟩
    unfold CRx at h1 ⊢
    simp only
    split at h1
    · rw [if_pos ‹_›]; obtain ⟨u, u1, u2⟩ := h1; exact ⟨u, u1, CRs.map hf u2⟩
    · rw [if_neg ‹_›]; obtain ⟨c, c1, c2⟩ := h1; exact ⟨f c, by rw [c1]; rfl, hf c v c2⟩
theorem VR.map {σ σ' : St} {g g' : Gh} {w w' : World} {f : C → C} (hf : ∀ c v, CR σ g w c v → CR σ' g' w' (f c) v) {x : V} {v : Value} (h : VR σ g w x v) : VR σ' g' w' (x.map f) v := by
  cases x with
  | one c => exact hf c v h
  | agg cs => obtain ⟨u, u1, u2⟩ := h; exact ⟨u, u1, CRs.map hf u2⟩
  | tup xs => obtain ⟨u, u1, u2⟩ := h; exact ⟨u, u1, CRt.map hf u2⟩

/-- Every cell of rows that read is one cell. -/
theorem RepAt.one {w : World} {A : Nat → Prop} {b o : Nat} {cs : List T} (h : RepAt w A b o cs) (j : Nat) (hj : j < cs.length) : ∃ v, w.cell? ⟨b, o + j, none⟩ = some v ∧ v.oneCell' = true := by
  obtain ⟨v, h1, h2⟩ := h.at j cs[j] (by simp [hj])
  exact ⟨v, h1, (RepV.one h2).1⟩
theorem RepRows.one {w : World} {A : Nat → Prop} {b o sz : Nat} : ∀ {rows : List (List T)} {o : Nat}, RepRows w A b o sz rows → ∀ j, j < rows.length * sz → ∃ v, w.cell? ⟨b, o + j, none⟩ = some v ∧ v.oneCell' = true
  | [], _, _, j, hj => by simp at hj
  | r :: rest, o, h, j, hj => by
    unfold RepRows at h
    by_cases hjs : j < sz
    · exact h.2.1.one j (by omega)
    · obtain ⟨v, k1, k2⟩ := RepRows.one (o := o) h.2.2 (j - sz) (by simp [Nat.add_mul] at hj; omega)
      exact ⟨v, by rwa [show o + sz + (j - sz) = o + j by omega] at k1, k2⟩

theorem run_room (w : World) (t ty e : TypeId) (i : TypeInfo) (ht : P.underlying t = some (.slice e)) (hi : P.info? e = some i) (cty : TypeId)
    (g sLen sCap : Nat) (cur : Array Value) (hg : w.heap[g]? = some (.cells cur cty (0, 0)))
    (a : Addr) (m c : Nat) (news : List Value) (hl : news.length = m * i.size) (hnews : ∀ j u, news[j]? = some u → w.cell? (a.add j) = some u) (h1 : ∀ u ∈ news, u.oneCell' = true)
    (hroom : sLen + m ≤ sCap) (hfit : sLen * i.size + news.length ≤ cur.size) :
    (Builtin.append_ #[t, t] ty #[.slice (some ⟨g, 0, none⟩) sLen sCap, .slice (some a) m c]).run P w =
      .ok (.slice (some ⟨g, 0, none⟩) (sLen + m) sCap) (w.setRow g (cur.toList.take (sLen * i.size) ++ news ++ cur.toList.drop (sLen * i.size + news.length)).toArray) := by
  have hf := run_firstCells_some (P := P) w i.size m a m c news hl hnews
  have hst := run_storeCells_at P g (sLen * i.size) cty news 0 cur w hg (by simpa using hfit) h1
  simp only [Nat.add_zero] at hst
  simp [Builtin.append_, run_underlying ht, sizeOf, typeInfo, hi, Builtin.lenOf, hroom, hf, Addr.add_lit, hst]

/-- What an append leaves: a slice from a block's head on, the old cells and the new ones; only that block has turned. -/
structure Apd (w w' : World) (sz len : Nat) (old : Option Nat) (vs : List Value) (v' : Value) : Prop where
  os : w'.os = w.os
  tape : w'.tape = w.tape
  output : w'.output = w.output
  size : w.heap.size ≤ w'.heap.size
  res : (v' = .slice none 0 0 ∧ vs = [] ∧ len = 0 ∧ w' = w) ∨ ∃ b cap cells ty, v' = .slice (some ⟨b, 0, none⟩) len cap ∧ len ≤ cap ∧ cap ≤ maxI ∧ w'.heap[b]? = some (.cells cells ty (0, 0)) ∧ cells.size = cap * sz ∧ cells.toList.take (len * sz) = vs ∧
    (some b = old ∨ w.heap.size ≤ b) ∧ ∀ k, k < w.heap.size → k ≠ b → w'.heap[k]? = w.heap[k]?

theorem append_run (w : World) (t ty e : TypeId) (n bytes : Nat) (ht : P.underlying t = some (.slice e)) (hn : sizeT P e = some n) (hby : bytesT P e = some bytes) (z : List C) (hz : zeroT P e = some z) (hzl : z.length = n)
    (v : Value) (len : Nat) (old : Option Nat) (xs : List Value)
    (hs : (v = .slice none 0 0 ∧ len = 0 ∧ xs = []) ∨ ∃ b cap cells cty, v = .slice (some ⟨b, 0, none⟩) len cap ∧ len ≤ cap ∧ cap ≤ maxI ∧ w.heap[b]? = some (.cells cells cty (0, 0)) ∧ cells.size = cap * n ∧ cells.toList.take (len * n) = xs ∧ old = some b)
    (ao : Option Addr) (m c : Nat) (news : List Value) (hl : news.length = m * n) (hsrc : m = 0 ∨ ∃ a, ao = some a ∧ ∀ j u, news[j]? = some u → w.cell? (a.add j) = some u) (h1 : ∀ u ∈ news, u.oneCell' = true)
    (hb1 : len + m ≤ 4294967296) (hb2 : bytes ≤ 16384) :
    ∃ v' w', (Builtin.append_ #[t, t] ty #[v, .slice ao m c]).run P w = .ok v' w' ∧ Apd w w' n (len + m) old (xs ++ news) v' := by
  obtain ⟨i, zv, hi, hzv, hzc⟩ := zeroT_eq hz
  have hin : i.size = n := by unfold sizeT at hn; rw [hi] at hn; simpa using hn
  have hib : i.bytes = bytes := by unfold bytesT at hby; rw [hi] at hby; simpa using hby
  have hzs : zv.cells.size = n := by
    have := (hzc ⟨fun _ => .one .any, fun _ => none, fun _ => none⟩ ⟨fun _ => 0, fun _ _ => undef, fun _ => [], fun _ => True, RP.of fun _ => True⟩ w).len
    simp at this; omega
  have hbound : (len + m) * i.bytes ≤ 140737488355328 := by
    rw [hib]
    calc (len + m) * bytes ≤ 4294967296 * 16384 := Nat.mul_le_mul hb1 hb2
      _ ≤ 140737488355328 := by decide
  have grown : ∀ (oldc : Nat) (xs : List Value), xs.length = len * n → oldc < len + m → Apd w (w.drew.alloc (.cells (xs.toArray ++ news.toArray ++ Builtin.zeroCells zv.cells (grownCap w (len + m) oldc e - (len + m))) e)) n (len + m) old (xs ++ news)
      (.slice (some ⟨w.heap.size, 0, none⟩) (len + m) (grownCap w (len + m) oldc e)) := by
    intro oldc xs hxl ho
    have hge := grownCap_ge w (len + m) oldc e
    have hcm : grownCap w (len + m) oldc e ≤ maxLen := grownCap_le_maxLen w (len + m) oldc e (by simp only [maxLen]; omega)
    refine ⟨rfl, rfl, rfl, by simp, Or.inr ⟨w.heap.size, _, _, e, rfl, hge, by simpa [maxLen, maxI] using hcm, heap_alloc_new w.drew _, ?_, ?_, Or.inr (Nat.le_refl _), fun k hk _ => Below.heap_alloc w.drew _ k hk⟩⟩
    · simp only [Array.size_append, List.size_toArray, size_zeroCells, hzs, hxl, hl, ← Nat.add_mul]
      congr 1
      omega
    · simp only [Array.toList_append, List.append_assoc]
      rw [← List.append_assoc, show (len + m) * n = (xs ++ news).length by rw [List.length_append, hxl, hl, Nat.add_mul]]
      exact List.take_left
  subst hin
  by_cases hm : m = 0
  · subst hm
    have hn0 : news = [] := List.eq_nil_of_length_eq_zero (by simpa using hl)
    subst hn0
    have hfc : (Builtin.firstCells i.size 0 (.slice ao 0 c)).run P w = .ok #[] w := by
      cases ao <;> simp [Builtin.firstCells, loadCells, loadCellsFrom]
    rcases hs with ⟨rfl, rfl, rfl⟩ | ⟨b, cap, cells, cty, rfl, k1, k2, k3, k4, k5, k6⟩
    · refine ⟨.slice none 0 0, w, ?_, rfl, rfl, rfl, Nat.le_refl _, Or.inl ⟨rfl, rfl, rfl, rfl⟩⟩
      simp [Builtin.append_, run_underlying ht, sizeOf, typeInfo, hi, Builtin.lenOf, hfc]
    · refine ⟨.slice (some ⟨b, 0, none⟩) len cap, w, ?_, rfl, rfl, rfl, Nat.le_refl _, Or.inr ⟨b, cap, cells, cty, by simp, by simpa using k1, k2, k3, k4, by simpa using k5, Or.inl k6.symm, fun _ _ _ => rfl⟩⟩
      simp [Builtin.append_, run_underlying ht, sizeOf, typeInfo, hi, Builtin.lenOf, k1, hfc, storeCells]
  · obtain ⟨a, rfl, hnews⟩ := hsrc.resolve_left hm
    rcases hs with ⟨rfl, rfl, rfl⟩ | ⟨b, cap, cells, cty, rfl, k1, k2, k3, k4, k5, k6⟩
    · have hr := run_append_nil (P := P) w t ty e i zv ht hi hzv a m c news hl hnews (by omega) (by omega) (by simp only [Nat.zero_add] at hbound; omega)
      have := grown 0 [] (by simp) (by omega)
      simp only [Nat.zero_add, List.nil_append, Array.empty_append] at this ⊢
      exact ⟨_, _, hr, this⟩
    · have hxl : xs.length = len * i.size := by
        rw [← k5, List.length_take, Array.length_toList, k4]
        exact Nat.min_eq_left (Nat.mul_le_mul_right _ k1)
      by_cases hroom : len + m ≤ cap
      · have hfit : len * i.size + news.length ≤ cells.size := by rw [hl, k4, ← Nat.add_mul]; exact Nat.mul_le_mul_right _ hroom
        refine ⟨_, _, run_room w t ty e i ht hi cty b len cap cells k3 a m c news hl hnews h1 hroom hfit, rfl, rfl, rfl, by simp, Or.inr ⟨b, cap, _, cty, rfl, hroom, k2, setRow_heap w b cells _ cty _ k3, ?_, ?_, Or.inl k6.symm, fun k _ hk => setRow_other w b k _ hk⟩⟩
        · simp only [List.size_toArray, List.length_append, List.length_take, List.length_drop, Array.length_toList]
          omega
        · rw [k5, show (len + m) * i.size = (xs ++ news).length by rw [List.length_append, hxl, hl, Nat.add_mul]]
          exact List.take_left
      · have holds : ∀ j u, xs[j]? = some u → w.cell? ((⟨b, 0, none⟩ : Addr).add j) = some u := fun j u hu => by
          rw [addr_add, Nat.zero_add]
          rw [← k5, List.getElem?_take] at hu
          split at hu
          · simpa [World.cell?, k3] using hu
          · cases hu
        have hr := run_append_grow (P := P) w t ty e i zv ht hi hzv ⟨b, 0, none⟩ len cap xs hxl holds a m c news hl hnews (by omega) (by omega) (growslice_fits (by omega) hbound)
        exact ⟨_, _, hr, grown cap xs hxl (by omega)⟩
end Go.Proofs.Ytgfjbbbkploonaa
