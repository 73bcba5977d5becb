/-
  The walk over plain data is sound: what holds of a state when the world moves on.
  Conditions: none.
-/
import Derived.Test.YtgfjbbbkploonaaSxC
namespace Go.Proofs.Ytgfjbbbkploonaa
set_option linter.unusedSimpArgs false
set_option linter.unusedVariables false
open Go.RowKit

/-- The cells of one state are cells of another. -/
structure Mv (σ σ' : St) (g g' : Gh) (w w' : World) : Prop where
  same : ∀ b, Fix σ g w b → w'.heap[b]? = w.heap[b]?
  fix : ∀ b, Fix σ g w b → Fix σ' g' w' b
  bx : ∀ b, σ.bx b ≠ none → g'.β b = g.β b ∧ σ'.bx b ≠ none
  ev : ∀ e n, σ.has e n → σ'.has e n ∧ g'.ψ e n = g.ψ e n

section
variable {σ σ' : St} {g g' : Gh} {w w' : World} (m : Mv σ σ' g g' w w')
include m
theorem Mv.rep {t : T} {v : Value} (h : RepV w (Fix σ g w) t v) : RepV w' (Fix σ' g' w') t v := RepV.keep m.same m.fix t v h
theorem Mv.cr : ∀ {c : C} {v : Value}, CR σ g w c v → CR σ' g' w' c v
  | .t x, v, h => m.rep h
  | .nl _, v, h => h
  | .ow e n, v, h => by
    obtain ⟨h1, h2⟩ := h
    obtain ⟨k1, k2⟩ := m.ev e n h2
    exact ⟨h1.trans k2.symm, k1⟩
  | .bx b o, v, h => by
    obtain ⟨h1, h2⟩ := h
    obtain ⟨k1, k2⟩ := m.bx b h2
    exact ⟨by rw [k1]; exact h1, k2⟩
  | .el cs o, v, h => by
    obtain ⟨b, q, h1, h2, h3⟩ := h
    exact ⟨b, q, h1, m.fix b h2, RepAt.keep m.same m.fix b (m.same b h2) q cs h3⟩
  | .eo e s sz i o, v, h => by
    obtain ⟨b, n, c, h1, h2, h3, h4⟩ := h
    obtain ⟨k1, k2⟩ := m.ev e s h4
    exact ⟨b, n, c, k2.trans h1, h2, h3, k1⟩
  | .fn f caps, v, h => by
    obtain ⟨h1, h2⟩ := h
    refine ⟨?_, fun b hb => (m.bx b (h2 b hb)).2⟩
    rw [h1]
    congr 2
    exact List.map_congr_left fun b hb => by rw [(m.bx b (h2 b hb)).1]
  | .cv _, v, h => h
  | .any, _, _ => trivial
theorem Mv.crs : ∀ {cs : List C} {vs : List Value}, CRs σ g w cs vs → CRs σ' g' w' cs vs
  | [], vs, h => h
  | c :: cs, vs, h => by
    obtain ⟨v, vs', rfl, h1, h2⟩ := h
    exact ⟨v, vs', rfl, m.cr h1, Mv.crs h2⟩
theorem Mv.crx {x : Bool × List C} {v : Value} (h : CRx σ g w x v) : CRx σ' g' w' x v := by
  unfold CRx at h ⊢
  split at h
  · rw [if_pos ‹_›]; obtain ⟨a, h1, h2⟩ := h; exact ⟨a, h1, m.crs h2⟩
  · rw [if_neg ‹_›]; obtain ⟨c, h1, h2⟩ := h; exact ⟨c, h1, m.cr h2⟩
theorem Mv.crt : ∀ {xs : List (Bool × List C)} {vs : List Value}, CRt σ g w xs vs → CRt σ' g' w' xs vs
  | [], vs, h => h
  | x :: xs, vs, h => by
    obtain ⟨v, vs', rfl, h1, h2⟩ := h
    exact ⟨v, vs', rfl, m.crx h1, Mv.crt h2⟩
theorem Mv.vr : ∀ {x : V} {v : Value}, VR σ g w x v → VR σ' g' w' x v
  | .one _, _, h => m.cr h
  | .agg _, _, h => by obtain ⟨a, h1, h2⟩ := h; exact ⟨a, h1, m.crs h2⟩
  | .tup _, _, h => by obtain ⟨a, h1, h2⟩ := h; exact ⟨a, h1, m.crt h2⟩
/-- An owned slice none of whose blocks is touched. -/
theorem Mv.evr {x : Ev} {v : Value} {fp : List Nat} (h : EvR w (Fix σ g w) x v fp) (hs : ∀ b ∈ fp, w'.heap[b]? = w.heap[b]?) : EvR w' (Fix σ' g' w') x v fp := by
  obtain ⟨ao, cap, h1, h2, h3, h4⟩ := h
  refine ⟨ao, cap, h1, h2, h3, ?_⟩
  rcases h4 with h4 | ⟨b, cells, ty, fps, k1, k2, k3, k4, k5⟩
  · exact Or.inl h4
  · subst k2
    refine Or.inr ⟨b, cells, ty, fps, k1, rfl, by rw [hs b (by simp)]; exact k3, k4, ?_⟩
    split at k5
    · rw [if_pos ‹_›]; exact OwnRows.keep cells 0 x.sz x.rows fps k5 fun b' hb' => hs b' (by simp [hb'])
    · rw [if_neg ‹_›]; exact ⟨k5.1, RepRows.keep m.same m.fix b (hs b (by simp)) 0 x.sz x.rows k5.2⟩
end

theorem CRs.len {σ : St} {g : Gh} {w : World} : ∀ {cs : List C} {vs : List Value}, CRs σ g w cs vs → vs.length = cs.length
  | [], vs, h => by rw [show vs = [] from h]; rfl
  | c :: cs, vs, h => by
    obtain ⟨v, vs', rfl, _, h2⟩ := h
    simp [CRs.len h2]
theorem CRs.at {σ : St} {g : Gh} {w : World} : ∀ {cs : List C} {vs : List Value}, CRs σ g w cs vs → ∀ (j : Nat) c, cs[j]? = some c → ∃ v, vs[j]? = some v ∧ CR σ g w c v
  | [], _, _, j, c, h => by simp at h
  | d :: cs, vs, h, 0, c, hj => by
    obtain ⟨v, vs', rfl, h1, _⟩ := h
    simp only [List.getElem?_cons_zero, Option.some.injEq] at hj
    subst hj
    exact ⟨v, rfl, h1⟩
  | d :: cs, vs, h, j + 1, c, hj => by
    obtain ⟨v, vs', rfl, _, h2⟩ := h
    simpa using CRs.at h2 j c (by simpa using hj)
theorem CRs.mk {σ : St} {g : Gh} {w : World} : ∀ {cs : List C} {vs : List Value}, vs.length = cs.length → (∀ (j : Nat) c v, cs[j]? = some c → vs[j]? = some v → CR σ g w c v) → CRs σ g w cs vs
  | [], vs, hl, _ => List.length_eq_zero_iff.1 hl
  | c :: cs, [], hl, _ => by simp at hl
  | c :: cs, v :: vs, hl, h => ⟨v, vs, rfl, h 0 c v rfl rfl, CRs.mk (by simpa using hl) fun j c v h1 h2 => h (j + 1) c v (by simpa using h1) (by simpa using h2)⟩
theorem CRs.append {σ : St} {g : Gh} {w : World} : ∀ {cs ds : List C} {vs us : List Value}, CRs σ g w cs vs → CRs σ g w ds us → CRs σ g w (cs ++ ds) (vs ++ us)
  | [], _, vs, _, h, k => by rw [show vs = [] from h]; exact k
  | c :: cs, _, vs, _, h, k => by
    obtain ⟨v, vs', rfl, h1, h2⟩ := h
    exact ⟨v, _, rfl, h1, CRs.append h2 k⟩
theorem CRs.take {σ : St} {g : Gh} {w : World} (n : Nat) {cs : List C} {vs : List Value} (h : CRs σ g w cs vs) : CRs σ g w (cs.take n) (vs.take n) := by
  refine CRs.mk (by simp [h.len]) fun j c v h1 h2 => ?_
  rw [List.getElem?_take] at h1 h2
  split at h1
  · rw [if_pos ‹_›] at h2
    obtain ⟨u, k1, k2⟩ := h.at j c h1
    rw [h2] at k1
    cases k1
    exact k2
  · cases h1
theorem CRs.drop {σ : St} {g : Gh} {w : World} (n : Nat) {cs : List C} {vs : List Value} (h : CRs σ g w cs vs) : CRs σ g w (cs.drop n) (vs.drop n) := by
  refine CRs.mk (by simp [h.len]) fun j c v h1 h2 => ?_
  rw [List.getElem?_drop] at h1 h2
  obtain ⟨u, k1, k2⟩ := h.at _ c h1
  rw [h2] at k1
  cases k1
  exact k2

theorem Rel.fixes {n0 : Nat → Prop} {N : Nat} {σ : St} {g : Gh} {a : Act} {w : World} (h : Rel n0 N σ g a w) {e : Nat} {x : Ev} (he : σ.ev e = some x) (ho : x.on = true) {b : Nat} (hb : b ∈ (g.φ e).tail) (hl : b < w.heap.size) : Fix σ g w b := by
  have hmem : b ∈ g.φ e := List.mem_of_mem_tail hb
  have hon : σ.On e := ⟨x, he, ho⟩
  refine ⟨fun k hk hkb => h.ebx e k hon hk (hkb ▸ hmem), fun e' x' he' ho' hh => ?_, hl, (h.ebase e hon b hmem).1⟩
  by_cases hee : e' = e
  · subst hee
    have hn := h.nodup e' hon
    cases hp : g.φ e' with
    | nil => rw [hp] at hb; simp at hb
    | cons y ys =>
      rw [hp] at hb hh hn
      simp only [List.head?_cons, Option.some.injEq] at hh
      subst hh
      exact (List.nodup_cons.1 hn).1 hb
  · have hd := h.apart e e' hon ⟨x', he', ho'⟩ (Ne.symm hee) b hmem
    cases hp : g.φ e' with
    | nil => rw [hp] at hh; simp at hh
    | cons y ys =>
      rw [hp] at hh hd
      simp only [List.head?_cons, Option.some.injEq] at hh
      exact hd (by simp [hh])

theorem Mv.of_eq {σ σ' : St} (g : Gh) (w : World) (h1 : σ'.bx = σ.bx) (h2 : σ'.ev = σ.ev) : Mv σ σ' g g w w :=
  ⟨fun _ _ => rfl, fun b h => by unfold Fix at h ⊢; rw [h1, h2]; exact h, fun b hb => ⟨rfl, by rw [h1]; exact hb⟩, fun e n he => ⟨by unfold St.has; rw [h2]; exact he, rfl⟩⟩
/-- Only slots turn. -/
theorem Rel.slots_of {n0 : Nat → Prop} {N : Nat} {σ σ' : St} {g : Gh} {a a' : Act} {w : World} (h : Rel n0 N σ g a w) (h1 : σ'.bx = σ.bx) (h2 : σ'.ev = σ.ev) (hd : a'.defers = []) (hz : a'.tmps.size = N)
    (hs : ∀ i, VR σ g w (σ'.sl i) (a'.tmps.getD i (g.R0.ξ i))) : Rel n0 N σ' g a' w := by
  have m := Mv.of_eq g w h1 h2
  refine ⟨hd, hz, h.anew, fun i => m.vr (hs i), fun b cs hb => ?_, ?_, ?_, fun e x he ho => ?_, fun e x he ho => ?_, h.slc, fun e he => ?_, fun e he => ?_, fun e he => ?_, fun e e' he he' => ?_, fun e k he hk => ?_⟩
  · rw [h1] at hb
    obtain ⟨vs, ty, k1, k2⟩ := h.boxes b cs hb
    exact ⟨vs, ty, k1, m.crs k2⟩
  · rw [h1]; exact h.base
  · rw [h1]; exact h.inj
  · rw [h2] at he
    exact m.evr (h.evs e x he ho) fun _ _ => rfl
  · rw [h2] at he
    exact ⟨m.rep (h.offs e x he ho).1, (h.offs e x he ho).2⟩
  · exact h.ebase e (by unfold St.On at he ⊢; rw [← h2]; exact he)
  · exact h.etop e (by unfold St.On at he ⊢; rw [← h2]; exact he)
  · exact h.nodup e (by unfold St.On at he ⊢; rw [← h2]; exact he)
  · exact h.apart e e' (by unfold St.On at he ⊢; rw [← h2]; exact he) (by unfold St.On at he' ⊢; rw [← h2]; exact he')
  · rw [h1] at hk; exact h.ebx e k (by unfold St.On at he ⊢; rw [← h2]; exact he) hk
theorem getD_set_self {N i : Nat} {a : Act} (hz : a.tmps.size = N) (hi : i < N) (v u : Value) : (a.tmps.setIfInBounds i v).getD i u = v := by
  rw [Array.getD_eq_getD_getElem?, Array.getElem?_setIfInBounds]
  simp [hz, hi]
theorem getD_set_ne' {i j : Nat} (a : Act) (h : j ≠ i) (v u : Value) : (a.tmps.setIfInBounds i v).getD j u = a.tmps.getD j u := by
  rw [Array.getD_eq_getD_getElem?, Array.getD_eq_getD_getElem?, Array.getElem?_setIfInBounds_ne (by omega)]
theorem Rel.slot_at {n0 : Nat → Prop} {N : Nat} {σ : St} {g : Gh} {a : Act} {w : World} (h : Rel n0 N σ g a w) {i : Nat} (hi : i < 1000000) : VR σ g w (σ.sl i) (a.tmps.getD i undef) := by
  have := h.slots i
  rwa [g.R0.lo i hi] at this
theorem Rel.put {n0 : Nat → Prop} {N : Nat} {σ : St} {g : Gh} {a : Act} {w : World} (h : Rel n0 N σ g a w) (d : Option Nat) {x : V} {v : Value} (hv : VR σ g w x v) (hd : ∀ i, d = some i → i < N) : Rel n0 N (σ.put d x) g (a.put d v) w := by
  cases d with
  | none => exact h
  | some i =>
    have hi := hd i rfl
    refine h.slots_of rfl rfl h.defers (by simp [Act.put, h.size]) fun j => ?_
    show VR σ g w (upd σ.sl i x j) _
    unfold upd
    simp only [Act.put]
    split
    · subst j; rw [getD_set_self h.size hi]; exact hv
    · rw [getD_set_ne' a ‹_›]; exact h.slots j

/-- A constant cell, in memory. -/
theorem cellOf_cr (σ : St) (g : Gh) (w : World) (s : Nat) (v : Value) : CR σ g w (cellOf s v) v := by
  unfold cellOf
  split
  · split
    · rename_i h; simp only [CR, RepV]; exact ⟨trivial, h.1, h.2⟩
    · rfl
  · simp only [CR, RepV]
  · split
    · rename_i h; simp only [CR, RepV]; exact ⟨by simp, by simpa using h⟩
    · rfl
  · rfl
  · rfl
theorem cells_cr (σ : St) (g : Gh) (w : World) (f : Nat → Nat) (vs : List Value) (i : Nat) : CRs σ g w ((vs.zipIdx i).map fun (v, i) => cellOf (f i) v) vs := by
  induction vs generalizing i with
  | nil => rfl
  | cons v vs ih => exact ⟨v, vs, rfl, cellOf_cr σ g w _ v, ih (i + 1)⟩
theorem ofV_vr (P : Program) (σ : St) (g : Gh) (w : World) (t : TypeId) (v : Value) : VR σ g w (ofV P t v) v := by
  unfold ofV
  split
  · rename_i cs
    exact ⟨cs.toList, by simp, cells_cr σ g w (fun i => (nlsT P 6 t).getD i 0) cs.toList 0⟩
  · exact cellOf_cr σ g w _ v
theorem Rel.get {n0 : Nat → Prop} {N : Nat} {σ : St} {g : Gh} {a : Act} {w : World} (P : Program) (h : Rel n0 N σ g a w) (t : TypeId) (x : Operand) : VR σ g w (σ.get P t x) (a.eval x) := by
  cases x with
  | tmp i =>
    show VR σ g w (if i < 1000000 then σ.sl i else .one .any) _
    split
    · exact h.slot_at ‹_›
    · trivial
  | const v => exact ofV_vr P σ g w t v
  | global _ => trivial
  | func f => exact ⟨rfl, fun b hb => by simp at hb⟩

/-- An owned slice that is not empty. -/
theorem Rel.sliceOf {n0 : Nat → Prop} {N : Nat} {σ : St} {g : Gh} {a : Act} {w : World} (h : Rel n0 N σ g a w) {e : Nat} {x : Ev} (he : σ.ev e = some x) (hne : x.rows ≠ []) : ∃ b cap, g.ψ e x.gen = .slice (some ⟨b, 0, none⟩) x.rows.length cap := by
  cases ho : x.on with
  | true =>
    obtain ⟨ao, cap, e1, e2, e3, e4⟩ := h.evs e x he ho
    rcases e4 with ⟨_, _, e4, _⟩ | ⟨b', cells, ty, fps, e5, _⟩
    · exact absurd e4 hne
    · exact ⟨b', cap, by rw [e1, e5]⟩
  | false =>
    obtain ⟨h1, h2⟩ := h.offs e x he ho
    unfold RepV at h1
    obtain ⟨ao, cap, e1, e2, e3, e4⟩ := h1
    rcases e4 with e4 | ⟨b', o, e5, e6, e7⟩
    · exact absurd e4 hne
    · rw [e5] at e1
      obtain ⟨rfl, _⟩ := h2 _ _ _ _ _ e1
      exact ⟨b', cap, e1⟩
/-- Any owned slice. -/
theorem Rel.sliceAny {n0 : Nat → Prop} {N : Nat} {σ : St} {g : Gh} {a : Act} {w : World} (h : Rel n0 N σ g a w) {e : Nat} {x : Ev} (he : σ.ev e = some x) : ∃ ao cap, g.ψ e x.gen = .slice ao x.rows.length cap ∧ x.rows.length ≤ cap ∧ cap ≤ maxI := by
  cases ho : x.on with
  | true =>
    obtain ⟨ao, cap, e1, e2, e3, e4⟩ := h.evs e x he ho
    exact ⟨ao, cap, e1, e2, e3⟩
  | false =>
    have h1 := (h.offs e x he ho).1
    unfold RepV at h1
    obtain ⟨ao, cap, e1, e2, e3, e4⟩ := h1
    exact ⟨ao, cap, e1, e2, e3⟩
/-- The cells that a pointer points at, in memory. -/
theorem Rel.at {n0 : Nat → Prop} {N : Nat} {σ : St} {g : Gh} {a : Act} {w : World} (h : Rel n0 N σ g a w) {x : V} {v : Value} (hv : VR σ g w x v) {cs : List C} {o : Nat} (ha : σ.at x = some (cs, o)) :
    ∃ b q, v = .pointer (some ⟨b, q + o, none⟩) ∧ ∀ (j : Nat) c, cs[j]? = some c → ∃ u, w.cell? ⟨b, q + j, none⟩ = some u ∧ CR σ g w c u := by
  unfold St.at at ha
  split at ha
  · rename_i b o'
    simp only [VR, CR] at hv
    cases hb : σ.bx b with
    | none => rw [hb] at ha; simp at ha
    | some cs' =>
      rw [hb] at ha
      simp only [Option.map_some, Option.some.injEq, Prod.mk.injEq] at ha
      obtain ⟨rfl, rfl⟩ := ha
      obtain ⟨vs, ty, k1, k2⟩ := h.boxes b cs' hb
      refine ⟨g.β b, 0, by simpa using hv.1, fun j c hj => ?_⟩
      obtain ⟨u, k3, k4⟩ := k2.at j c hj
      exact ⟨u, by simpa [World.cell?, k1] using k3, k4⟩
  · simp only [Option.some.injEq, Prod.mk.injEq] at ha
    obtain ⟨rfl, rfl⟩ := ha
    obtain ⟨b, q, k1, k2, k3⟩ := hv
    refine ⟨b, q, k1, fun j c hj => ?_⟩
    rw [List.getElem?_map] at hj
    cases hc : ‹List T›[j]? with
    | none => rw [hc] at hj; simp at hj
    | some t =>
      rw [hc] at hj
      simp only [Option.map_some, Option.some.injEq] at hj
      subst hj
      exact k3.at j t hc
  · simp only [Option.some.injEq, Prod.mk.injEq] at ha
    obtain ⟨rfl, rfl⟩ := ha
    simp only [VR, CR, RepV] at hv
    obtain ⟨b, q, k1, k2, k3⟩ := hv
    refine ⟨b, q, k1, fun j c hj => ?_⟩
    rw [List.getElem?_map] at hj
    cases hc : ‹List T›[j]? with
    | none => rw [hc] at hj; simp at hj
    | some t =>
      rw [hc] at hj
      simp only [Option.map_some, Option.some.injEq] at hj
      subst hj
      exact k3.at j t hc
  · rename_i e s sz i o'
    obtain ⟨b, n, c, k2, k3, k4, k5⟩ := hv
    cases k1 : σ.ev e with
    | none => obtain ⟨x, hx, _⟩ := k5; exact absurd (k1.symm.trans hx) (by simp)
    | some x =>
      rw [k1] at ha
      simp only [Option.bind_some] at ha
      split at ha
      · rename_i hgen
        simp only [Option.some.injEq, Prod.mk.injEq] at ha
        obtain ⟨rfl, rfl⟩ := ha
        obtain ⟨rfl, rfl⟩ := hgen
        have hrows : n = x.rows.length ∧ RepRows w (Fix σ g w) b 0 x.sz x.rows := by
          cases ho : x.on with
          | true =>
            obtain ⟨ao, cap, e1, e2, e3, e4⟩ := h.evs e x k1 ho
            rw [k2] at e1
            injection e1 with e1 e1' e1''
            subst e1
            rcases e4 with ⟨e4, _⟩ | ⟨b', cells, ty, fps, e5, e6, e7, e8, e9⟩
            · simp at e4
            · simp only [Option.some.injEq, Addr.mk.injEq, and_true] at e5
              subst e5
              refine ⟨e1', ?_⟩
              split at e9
              · refine OwnRows.rep b cells ty e7 0 x.sz x.rows fps e9 fun b' hb' => h.fixes k1 ho ?_ ?_
                · rw [e6]; exact hb'
                · exact OwnRows.lt cells 0 x.sz x.rows fps e9 b' hb'
              · exact e9.2
          | false =>
            have := (h.offs e x k1 ho).1
            unfold RepV at this
            obtain ⟨ao, cap, e1, e2, e3, e4⟩ := this
            rw [k2] at e1
            injection e1 with e1 e1' e1''
            subst e1
            refine ⟨e1', ?_⟩
            rcases e4 with e4 | ⟨b', o, e5, e6, e7⟩
            · rw [e4]; unfold RepRows; trivial
            · simp only [Option.some.injEq, Addr.mk.injEq, and_true] at e5
              obtain ⟨rfl, rfl⟩ := e5
              exact e7
        obtain ⟨rfl, hR⟩ := hrows
        refine ⟨b, i * x.sz, k3, fun j c hj => ?_⟩
        have hrow : x.rows[i]? = some x.rows[i] := by simp [k4]
        have hA := (hR.at i _ hrow).2
        have hg : x.rows.getD i [] = x.rows[i] := by simp [List.getD, k4]
        rw [hg, List.getElem?_map] at hj
        cases hc : (x.rows[i])[j]? with
        | none => rw [hc] at hj; simp at hj
        | some t =>
          rw [hc] at hj
          simp only [Option.map_some, Option.some.injEq] at hj
          subst hj
          obtain ⟨u, u1, u2⟩ := hA.at j t hc
          exact ⟨u, by simpa using u1, u2⟩
      · cases ha
  · cases ha
end Go.Proofs.Ytgfjbbbkploonaa
