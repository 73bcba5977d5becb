/-
  The walk over plain data: append, on states.
  Conditions: none.
-/
import Derived.Test.YtgfjbbbkploonaaSxM
namespace Go.Proofs.Ytgfjbbbkploonaa
set_option linter.unusedSimpArgs false
set_option linter.unusedVariables false
open Go.RowKit
variable {P : Program}

def lens (sz : Nat) (rows : List (List T)) : Prop := ∀ r ∈ rows, r.length = sz
theorem lens_flat {sz : Nat} : ∀ {rows : List (List T)}, lens sz rows → rows.flatten.length = rows.length * sz
  | [], _ => by simp
  | r :: rows, h => by
    have h1 := h r (by simp)
    have h2 := lens_flat (rows := rows) fun x hx => h x (by simp [hx])
    simp [h1, h2, Nat.add_mul]; omega
theorem RepAt.vals {w : World} {A : Nat → Prop} {b : Nat} : ∀ {cs : List T} {o : Nat}, RepAt w A b o cs → ∃ vs, vs.length = cs.length ∧ (∀ j u, vs[j]? = some u → w.cell? ⟨b, o + j, none⟩ = some u) ∧ RepAll w A cs vs
  | [], o, _ => ⟨[], rfl, by simp, by unfold RepAll; rfl⟩
  | c :: cs, o, h => by
    unfold RepAt at h
    obtain ⟨⟨v, h1, h2⟩, h3⟩ := h
    obtain ⟨vs, k1, k2, k3⟩ := RepAt.vals h3
    refine ⟨v :: vs, by simp [k1], fun j u hu => ?_, by unfold RepAll; exact ⟨v, vs, rfl, h2, k3⟩⟩
    cases j with
    | zero => simp only [List.getElem?_cons_zero, Option.some.injEq] at hu; subst hu; exact h1
    | succ j => have := k2 j u (by simpa using hu); rwa [show o + 1 + j = o + (j + 1) by omega] at this
theorem RepAll.append {w : World} {A : Nat → Prop} : ∀ {c1 c2 : List T} {v1 v2 : List Value}, RepAll w A c1 v1 → RepAll w A c2 v2 → RepAll w A (c1 ++ c2) (v1 ++ v2)
  | [], _, v1, _, h, k => by unfold RepAll at h; subst h; exact k
  | c :: cs, _, _, _, h, k => by
    unfold RepAll at h
    obtain ⟨v, vs', rfl, h1, h2⟩ := h
    rw [List.cons_append, List.cons_append]
    unfold RepAll
    exact ⟨v, _, rfl, h1, RepAll.append h2 k⟩
theorem RepRows.vals {w : World} {A : Nat → Prop} {b sz : Nat} : ∀ {rows : List (List T)} {o : Nat}, RepRows w A b o sz rows → lens sz rows ∧ ∃ vs, vs.length = rows.length * sz ∧ (∀ j u, vs[j]? = some u → w.cell? ⟨b, o + j, none⟩ = some u) ∧ RepAll w A rows.flatten vs
  | [], o, _ => ⟨by simp [lens], [], by simp, by simp, by unfold RepAll; rfl⟩
  | r :: rows, o, h => by
    unfold RepRows at h
    obtain ⟨h1, h2, h3⟩ := h
    obtain ⟨l, vs, k1, k2, k3⟩ := RepRows.vals h3
    obtain ⟨us, j1, j2, j3⟩ := h2.vals
    refine ⟨fun x hx => ?_, us ++ vs, by simp [j1, h1, k1, Nat.add_mul]; omega, fun j u hu => ?_, by rw [List.flatten_cons]; exact j3.append k3⟩
    · rcases List.mem_cons.1 hx with rfl | hx
      · exact h1
      · exact l x hx
    · rw [List.getElem?_append] at hu
      split at hu
      · exact j2 j u hu
      · have := k2 _ u hu; rwa [j1, h1, show o + sz + (j - sz) = o + j by rename_i hh; rw [j1, h1] at hh; omega] at this
theorem RepAll.split {w : World} {A : Nat → Prop} : ∀ {c1 c2 : List T} {vs : List Value}, RepAll w A (c1 ++ c2) vs → ∃ v1 v2, vs = v1 ++ v2 ∧ RepAll w A c1 v1 ∧ RepAll w A c2 v2
  | [], _, vs, h => ⟨[], vs, rfl, by unfold RepAll; rfl, h⟩
  | c :: cs, _, vs, h => by
    rw [List.cons_append] at h
    unfold RepAll at h
    obtain ⟨v, vs', rfl, h1, h2⟩ := h
    obtain ⟨v1, v2, rfl, k1, k2⟩ := RepAll.split h2
    exact ⟨v :: v1, v2, rfl, by unfold RepAll; exact ⟨v, v1, rfl, h1, k1⟩, k2⟩
/-- Rows out of a block's cells. -/
theorem RepRows.of_vals {w : World} {A : Nat → Prop} {b sz : Nat} : ∀ {rows : List (List T)} {o : Nat} {vs : List Value}, lens sz rows → RepAll w A rows.flatten vs → (∀ j u, vs[j]? = some u → w.cell? ⟨b, o + j, none⟩ = some u) → RepRows w A b o sz rows
  | [], _, _, _, _, _ => by unfold RepRows; trivial
  | r :: rows, o, vs, l, h, hc => by
    rw [List.flatten_cons] at h
    obtain ⟨v1, v2, rfl, h1, h2⟩ := h.split
    have hl := l r (by simp)
    have hl1 := h1.len
    unfold RepRows
    refine ⟨hl, RepAt.mk fun j c hj => ?_, RepRows.of_vals (vs := v2) (fun x hx => l x (by simp [hx])) h2 fun j u hu => ?_⟩
    · obtain ⟨v, k1, k2⟩ := h1.at j c hj
      exact ⟨v, hc j v (by rw [List.getElem?_append_left (by have := List.getElem?_eq_some_iff.1 k1; exact this.1)]; exact k1), k2⟩
    · have := hc (sz + j) u (by rw [List.getElem?_append_right (by omega)]; rwa [show sz + j - v1.length = j by omega])
      rwa [← Nat.add_assoc] at this
theorem OwnAt.vals {w : World} {cells : Array Value} : ∀ {cs : List T} {o : Nat} {fps : List Nat}, OwnAt w cells o cs fps → ∃ vs, vs.length = cs.length ∧ (∀ j u, vs[j]? = some u → cells[o + j]? = some u) ∧ OwnAll w cs vs fps
  | [], o, fps, h => by unfold OwnAt at h; exact ⟨[], rfl, by simp, rfl, h⟩
  | c :: cs, o, fps, h => by
    unfold OwnAt at h
    obtain ⟨v, f1, f2, h1, rfl, h2, h3⟩ := h
    obtain ⟨vs, k1, k2, k3⟩ := OwnAt.vals h3
    refine ⟨v :: vs, by simp [k1], fun j u hu => ?_, v, vs, f1, f2, rfl, rfl, h2, k3⟩
    cases j with
    | zero => simp only [List.getElem?_cons_zero, Option.some.injEq] at hu; subst hu; exact h1
    | succ j => have := k2 j u (by simpa using hu); rwa [show o + 1 + j = o + (j + 1) by omega] at this
theorem OwnRows.vals {w : World} {cells : Array Value} {sz : Nat} : ∀ {rows : List (List T)} {o : Nat} {fps : List Nat}, OwnRows w cells o sz rows fps → lens sz rows ∧ ∃ vs, vs.length = rows.length * sz ∧ (∀ j u, vs[j]? = some u → cells[o + j]? = some u) ∧ OwnAll w rows.flatten vs fps
  | [], o, fps, h => by unfold OwnRows at h; exact ⟨by simp [lens], [], by simp, by simp, rfl, h⟩
  | r :: rows, o, fps, h => by
    unfold OwnRows at h
    obtain ⟨h1, f1, f2, rfl, h2, h3⟩ := h
    obtain ⟨l, vs, k1, k2, k3⟩ := OwnRows.vals h3
    obtain ⟨us, j1, j2, j3⟩ := h2.vals
    refine ⟨fun x hx => ?_, us ++ vs, by simp [j1, h1, k1, Nat.add_mul]; omega, fun j u hu => ?_, by rw [List.flatten_cons]; exact j3.append k3⟩
    · rcases List.mem_cons.1 hx with rfl | hx
      · exact h1
      · exact l x hx
    · rw [List.getElem?_append] at hu
      split at hu
      · exact j2 j u hu
      · have := k2 _ u hu; rwa [j1, h1, show o + sz + (j - sz) = o + j by rename_i hh; rw [j1, h1] at hh; omega] at this
theorem OwnAll.split {w : World} : ∀ {c1 c2 : List T} {vs : List Value} {fps : List Nat}, OwnAll w (c1 ++ c2) vs fps → ∃ v1 v2 f1 f2, vs = v1 ++ v2 ∧ fps = f1 ++ f2 ∧ OwnAll w c1 v1 f1 ∧ OwnAll w c2 v2 f2
  | [], _, vs, fps, h => ⟨[], vs, [], fps, rfl, rfl, ⟨rfl, rfl⟩, h⟩
  | c :: cs, _, vs, fps, h => by
    obtain ⟨v, vs', g1, g2, rfl, rfl, h1, h2⟩ := h
    obtain ⟨v1, v2, f1, f2, rfl, rfl, k1, k2⟩ := OwnAll.split h2
    exact ⟨v :: v1, v2, g1 ++ f1, f2, rfl, by simp, ⟨v, v1, g1, f1, rfl, rfl, h1, k1⟩, k2⟩
theorem OwnAll.len {w : World} : ∀ {cs : List T} {vs : List Value} {fps : List Nat}, OwnAll w cs vs fps → vs.length = cs.length
  | [], vs, fps, h => by rw [h.1]; rfl
  | c :: cs, vs, fps, h => by obtain ⟨v, vs', f1, f2, rfl, rfl, _, h2⟩ := h; simp [OwnAll.len h2]
theorem OwnAt.of_vals {w : World} {cells : Array Value} : ∀ {cs : List T} {o : Nat} {vs : List Value} {fps : List Nat}, OwnAll w cs vs fps → (∀ j u, vs[j]? = some u → cells[o + j]? = some u) → OwnAt w cells o cs fps
  | [], _, _, _, h, _ => by unfold OwnAt; exact h.2
  | c :: cs, o, vs, fps, h, hc => by
    obtain ⟨v, vs', f1, f2, rfl, rfl, h1, h2⟩ := h
    unfold OwnAt
    refine ⟨v, f1, f2, hc 0 v rfl, rfl, h1, OwnAt.of_vals h2 fun j u hu => ?_⟩
    have := hc (j + 1) u (by simpa using hu)
    rwa [show o + (j + 1) = o + 1 + j by omega] at this
theorem OwnRows.of_vals {w : World} {cells : Array Value} {sz : Nat} : ∀ {rows : List (List T)} {o : Nat} {vs : List Value} {fps : List Nat}, lens sz rows → OwnAll w rows.flatten vs fps → (∀ j u, vs[j]? = some u → cells[o + j]? = some u) → OwnRows w cells o sz rows fps
  | [], _, _, _, _, h, _ => by unfold OwnRows; exact h.2
  | r :: rows, o, vs, fps, l, h, hc => by
    rw [List.flatten_cons] at h
    obtain ⟨v1, v2, f1, f2, rfl, rfl, h1, h2⟩ := h.split
    have hl := l r (by simp)
    have hl1 := h1.len
    unfold OwnRows
    refine ⟨hl, f1, f2, rfl, OwnAt.of_vals h1 fun j u hu => hc j u (by rw [List.getElem?_append_left (by have := List.getElem?_eq_some_iff.1 hu; exact this.1)]; exact hu), OwnRows.of_vals (vs := v2) (fun x hx => l x (by simp [hx])) h2 fun j u hu => ?_⟩
    have := hc (sz + j) u (by rw [List.getElem?_append_right (by omega)]; rwa [show sz + j - v1.length = j by omega])
    rwa [← Nat.add_assoc] at this
theorem OwnAll.keep {w w' : World} : ∀ {cs : List T} {vs : List Value} {fps : List Nat}, OwnAll w cs vs fps → (∀ b ∈ fps, w'.heap[b]? = w.heap[b]?) → OwnAll w' cs vs fps
  | [], _, _, h, _ => h
  | c :: cs, vs, fps, h, hs => by
    obtain ⟨v, vs', f1, f2, rfl, rfl, h1, h2⟩ := h
    exact ⟨v, vs', f1, f2, rfl, rfl, OwnV.keep c v f1 h1 fun b hb => hs b (by simp [hb]), OwnAll.keep h2 fun b hb => hs b (by simp [hb])⟩
theorem OwnAll.rep {w : World} {A : Nat → Prop} : ∀ {cs : List T} {vs : List Value} {fps : List Nat}, OwnAll w cs vs fps → (∀ b ∈ fps, A b) → RepAll w A cs vs
  | [], vs, _, h, _ => by unfold RepAll; exact h.1
  | c :: cs, vs, fps, h, hs => by
    obtain ⟨v, vs', f1, f2, rfl, rfl, h1, h2⟩ := h
    unfold RepAll
    exact ⟨v, vs', rfl, OwnV.rep c v f1 h1 fun b hb => hs b (by simp [hb]), OwnAll.rep h2 fun b hb => hs b (by simp [hb])⟩
/-- Flat cells are owned. -/
theorem RepAll.own {w : World} {A : Nat → Prop} : ∀ {cs : List T} {vs : List Value}, RepAll w A cs vs → (∀ c ∈ cs, c.flat = true) → OwnAll w cs vs []
  | [], vs, h, _ => by unfold RepAll at h; exact ⟨h, rfl⟩
  | c :: cs, vs, h, hf => by
    unfold RepAll at h
    obtain ⟨v, vs', rfl, h1, h2⟩ := h
    refine ⟨v, vs', [], [], rfl, rfl, ?_, RepAll.own h2 fun x hx => hf x (by simp [hx])⟩
    have := hf c (by simp)
    cases c <;> simp only [T.flat, Bool.false_eq_true] at this
    · unfold RepV at h1; unfold OwnV; exact ⟨h1.1, h1.2.1, h1.2.2, rfl⟩
    · unfold RepV at h1; unfold OwnV; exact ⟨h1, rfl⟩
    · unfold RepV at h1; unfold OwnV; exact ⟨h1.1, h1.2, rfl⟩
theorem RepAll.one {w : World} {A : Nat → Prop} {cs : List T} {vs : List Value} (h : RepAll w A cs vs) : ∀ u ∈ vs, u.oneCell' = true := by
  intro u hu
  obtain ⟨j, hj, rfl⟩ := List.getElem_of_mem hu
  obtain ⟨v, k1, k2⟩ := h.at j (cs[j]'(by rw [← h.len]; exact hj)) (by simp)
  rw [List.getElem?_eq_getElem hj, Option.some.injEq] at k1
  rw [k1]
  exact (RepV.one k2).1

/-- An owned slice's elements, as values. -/
theorem Rel.vals {n0 : Nat → Prop} {N : Nat} {σ : St} {g : Gh} {a : Act} {w : World} (h : Rel n0 N σ g a w) {e : Nat} {x : Ev} (he : σ.ev e = some x) (ho : x.on = true) :
    ∃ ao cap vs, g.ψ e x.gen = .slice ao x.rows.length cap ∧ x.rows.length ≤ cap ∧ cap ≤ maxI ∧ lens x.sz x.rows ∧ vs.length = x.rows.length * x.sz ∧ RepAll w (Fix σ g w) x.rows.flatten vs ∧
      ((ao = none ∧ cap = 0 ∧ x.rows = [] ∧ g.φ e = []) ∨ ∃ b cells ty fps, ao = some ⟨b, 0, none⟩ ∧ g.φ e = b :: fps ∧ w.heap[b]? = some (.cells cells ty (0, 0)) ∧ cells.size = cap * x.sz ∧ cells.toList.take (x.rows.length * x.sz) = vs ∧ (x.deep = true → OwnAll w x.rows.flatten vs fps) ∧ (x.deep = false → fps = [])) := by
  obtain ⟨ao, cap, e1, e2, e3, e4⟩ := h.evs e x he ho
  rcases e4 with ⟨k1, k2, k3, k4⟩ | ⟨b, cells, ty, fps, k1, k2, k3, k4, k5⟩
  · refine ⟨ao, cap, [], e1, e2, e3, by rw [k3]; simp [lens], by rw [k3]; simp, by rw [k3]; unfold RepAll; rfl, Or.inl ⟨k1, k2, k3, k4⟩⟩
  · have hfp : ∀ b' ∈ fps, b' < w.heap.size → Fix σ g w b' := fun b' hb' hl => h.fixes he ho (by rw [k2]; exact hb') hl
    have hpre : ∀ vs : List Value, vs.length = x.rows.length * x.sz → (∀ j u, vs[j]? = some u → cells[0 + j]? = some u) → cells.toList.take (x.rows.length * x.sz) = vs := fun vs hl hc => by
      apply List.ext_getElem?
      intro j
      rw [List.getElem?_take]
      split
      · have hj : j < vs.length := by omega
        have := hc j vs[j] (by simp [hj])
        rw [Nat.zero_add] at this
        rw [List.getElem?_eq_getElem hj]
        simpa using this
      · rw [List.getElem?_eq_none (by omega)]
    split at k5
    · obtain ⟨l, vs, j1, j2, j3⟩ := k5.vals
      exact ⟨ao, cap, vs, e1, e2, e3, l, j1, j3.rep fun b' hb' => hfp b' hb' (OwnRows.lt cells 0 x.sz x.rows fps k5 b' hb'), Or.inr ⟨b, cells, ty, fps, k1, k2, k3, k4, hpre vs j1 j2, fun _ => j3, fun hh => by simp_all⟩⟩
    · obtain ⟨l, vs, j1, j2, j3⟩ := k5.2.vals
      exact ⟨ao, cap, vs, e1, e2, e3, l, j1, j3, Or.inr ⟨b, cells, ty, fps, k1, k2, k3, k4, hpre vs j1 fun j u hu => by have := j2 j u hu; simpa [World.cell?, k3] using this, fun hh => by simp_all, fun _ => k5.1⟩⟩
end Go.Proofs.Ytgfjbbbkploonaa
