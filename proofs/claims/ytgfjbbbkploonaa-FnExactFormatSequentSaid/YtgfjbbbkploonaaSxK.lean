/-
  The walk over plain data: a call by its contract; the words that the walk runs by.
  Conditions: none.
-/
import Derived.Test.YtgfjbbbkploonaaSxJ
namespace Go.Proofs.Ytgfjbbbkploonaa
set_option linter.unusedSimpArgs false
set_option linter.unusedVariables false
open Go.RowKit
variable {P : Program}

/-- Whom a call calls, and what it captured. -/
def calleeOf : V → Option (FuncId × List V)
  | .one (.fn f caps) => some (f, caps.map fun b => .one (.bx b 0))
  | .one (.t (.fn f ts)) => some (f, ts.map fun t => .one (.t t))
  | _ => none
/- Fresh results: the cells. -/
def resD (d : Nat) : Nat → List D → List V
  | _, [] => []
  | j, .one t :: ds => .one (owC d j t) :: resD d (j + 1) ds
  | j, .agg ts :: ds => .agg (owCs d j ts) :: resD d (j + ts.length) ds
def cmpV : V → Bool × List C
  | .agg cs => (true, cs)
  | .one c => (false, [c])
  | .tup _ => (false, [])
def tupV : List V → V
  | [v] => v
  | vs => .tup (vs.map cmpV)
/-- The state behind a call that returns fresh data. -/
def St.callF (σ : St) (d : Nat) (res : List D) : St := { sl := upd σ.sl d (tupV (resD d 0 res)), bx := σ.bx, ev := owE d 0 (resCells res) σ.ev }
/-- The state behind a call whose results are read. -/
def St.callR (σ : St) (d : Option Nat) (res : List D) : St := σ.put d (tupV (res.map D.toV))

/-- New owned slices, in new blocks. -/
structure New (σ : St) (g : Gh) (w w' : World) (ev' : Nat → Option Ev) (g' : Gh) (F : List Nat) : Prop where
  β : g'.β = g.β
  A0 : g'.A0 = g.A0
  R0 : g'.R0 = g.R0
  old : ∀ e, σ.ev e ≠ none → ev' e = σ.ev e ∧ g'.ψ e = g.ψ e ∧ g'.φ e = g.φ e
  new : ∀ e x, σ.ev e = none → ev' e = some x → (x.deep = true ∧ x.on = true ∧ x.gen = 0) ∧ OwnV w' (.sl x.sz x.rows) (g'.ψ e 0) (g'.φ e) ∧ (∀ b ∈ g'.φ e, w.heap.size ≤ b ∧ b ∈ F) ∧ (g'.φ e).Nodup
  apart : ∀ e e', σ.ev e = none → σ.ev e' = none → ev' e ≠ none → ev' e' ≠ none → e ≠ e' → ∀ b ∈ g'.φ e, b ∉ g'.φ e'
  slc : ∀ e n, ∃ ao l c, g'.ψ e n = .slice ao l c

theorem New.refl (σ : St) (g : Gh) (w w' : World) (hs : ∀ e n, ∃ ao l c, g.ψ e n = .slice ao l c) : New σ g w w' σ.ev g [] :=
  ⟨rfl, rfl, rfl, fun _ _ => ⟨rfl, rfl, rfl⟩, fun e x h1 h2 => by rw [h1] at h2; (cases h2), fun e e' h1 _ h3 => absurd h1 h3, hs⟩

theorem New.add {σ : St} {g : Gh} {w w' : World} {ev' : Nat → Option Ev} {g' : Gh} {F : List Nat} (h : New σ g w w' ev' g' F) {i sz : Nat} {rows : List (List T)} {v : Value} {fp : List Nat} (hi : σ.ev i = none) (hi' : ev' i = none)
    (ho : OwnV w' (.sl sz rows) v fp) (hf : ∀ b ∈ fp, w.heap.size ≤ b) (hd : fp.Nodup) (hF : ∀ b ∈ fp, b ∉ F) :
    New σ g w w' (upd ev' i (some ⟨true, sz, rows, 0, true⟩)) ⟨g'.β, upd g'.ψ i (fun _ => v), upd g'.φ i fp, g'.A0, g'.R0⟩ (F ++ fp) := by
  refine ⟨h.β, h.A0, h.R0, fun e he => ?_, fun e x h1 h2 => ?_, fun e e' h1 h2 h3 h4 hne b hb hb' => ?_, fun e n => by
    by_cases hei : e = i
    · subst hei; unfold OwnV at ho; obtain ⟨ao, cap, k1, _⟩ := ho; exact ⟨ao, _, cap, by simp only [upd_same]; exact k1⟩
    · simp only [upd_ne _ _ hei]; exact h.slc e n⟩
  · have hne : e ≠ i := fun e' => he (e' ▸ hi)
    simp only [upd_ne _ _ hne]
    exact h.old e he
  · by_cases hei : e = i
    · subst hei
      simp only [upd_same, Option.some.injEq] at h2 ⊢
      subst h2
      exact ⟨⟨rfl, rfl, rfl⟩, ho, fun b hb => ⟨hf b hb, by simp [hb]⟩, hd⟩
    · simp only [upd_ne _ _ hei] at h2 ⊢
      obtain ⟨k1, k2, k3, k4⟩ := h.new e x h1 h2
      exact ⟨k1, k2, fun b hb => ⟨(k3 b hb).1, by simp [(k3 b hb).2]⟩, k4⟩
  · by_cases e1 : e = i <;> by_cases e2 : e' = i
    · exact hne (e1.trans e2.symm)
    · subst e1
      simp only [upd_same, upd_ne _ _ e2] at hb hb' h4
      obtain ⟨x, hx⟩ := Option.ne_none_iff_exists'.1 h4
      exact hF b hb ((h.new e' x h2 hx).2.2.1 b hb').2
    · subst e2
      simp only [upd_same, upd_ne _ _ e1] at hb hb' h3
      obtain ⟨x, hx⟩ := Option.ne_none_iff_exists'.1 h3
      exact hF b hb' ((h.new e x h1 hx).2.2.1 b hb).2
    · simp only [upd_ne _ _ e1, upd_ne _ _ e2] at hb hb' h3 h4
      exact h.apart e e' h1 h2 h3 h4 hne b hb hb'

/-- Each cell of what came fresh. -/
theorem New.cells {σ : St} {g : Gh} {w w' : World} (d : Nat) : ∀ (ts : List T) (vs : List Value) (fp : List Nat) (j : Nat) (ev' : Nat → Option Ev) (g' : Gh) (F : List Nat), New σ g w w' ev' g' F → (∀ e, σ.ev e = none → ev' e ≠ none → ∃ i, i < j ∧ e = d * 32 + i) →
    freeE d j ts σ.ev → OwnAll w' ts vs fp → fp.Nodup → (∀ b ∈ fp, w.heap.size ≤ b ∧ b ∉ F) →
    ∃ g'', New σ g w w' (owE d j ts ev') g'' (F ++ fp) ∧ (∀ e, (∃ i, i < j ∧ e = d * 32 + i) → ev' e ≠ none → g''.ψ e = g'.ψ e ∧ owE d j ts ev' e ≠ none) ∧ ∀ (σ' : St) (w'' : World), σ'.ev = owE d j ts ev' → CRs σ' g'' w'' (owCs d j ts) vs
  | [], vs, fp, j, ev', g', F, hN, hj, hf, ho, hd, hb => by
    obtain ⟨rfl, rfl⟩ := ho
    exact ⟨g', by simpa [owE] using hN, fun e _ h => ⟨rfl, h⟩, fun _ _ _ => rfl⟩
  | t :: ts, vs, fp, j, ev', g', F, hN, hj, hf, ho, hd, hb => by
    obtain ⟨v, vs', f1, f2, rfl, rfl, h1, h2⟩ := ho
    obtain ⟨hf1, hf2⟩ := hf
    obtain ⟨hd1, hd2, hd3⟩ := List.nodup_append.1 hd
    have flat : t.flat = true → f1 = [] ∧ owC d j t = .t t ∧ owE1 d j ev' t = ev' ∧ ∀ (σ' : St) (g'' : Gh) (w'' : World), CR σ' g'' w'' (.t t) v := fun hfl => by
      cases t <;> simp only [T.flat, Bool.false_eq_true] at hfl
      · unfold OwnV at h1; exact ⟨h1.2.2.2, rfl, rfl, fun _ _ _ => by simp only [CR, RepV]; exact ⟨h1.1, h1.2.1, h1.2.2.1⟩⟩
      · unfold OwnV at h1; exact ⟨h1.2, rfl, rfl, fun _ _ _ => by simp only [CR, RepV]; exact h1.1⟩
      · unfold OwnV at h1; exact ⟨h1.2.2, rfl, rfl, fun _ _ _ => by simp only [CR, RepV]; exact ⟨h1.1, h1.2.1⟩⟩
    by_cases hfl : t.flat = true
    · obtain ⟨rfl, c2, c3, c4⟩ := flat hfl
      obtain ⟨g'', k1, k2, k3⟩ := New.cells d ts vs' f2 (j + 1) ev' g' F hN (fun e h1 h2 => by obtain ⟨i, hi, he⟩ := hj e h1 h2; exact ⟨i, by omega, he⟩) hf2 h2 hd2 (fun b hb' => hb b (by simp [hb']))
      refine ⟨g'', by simpa [owE, c3] using k1, fun e he h => ?_, fun σ' w'' hσ => ⟨v, vs', rfl, by rw [c2]; exact c4 _ _ _, k3 σ' w'' (by simpa [owE, c3] using hσ)⟩⟩
      obtain ⟨i, hi, he⟩ := he
      have := k2 e ⟨i, by omega, he⟩ h
      simpa [owE, c3] using this
    · cases t <;> simp only [T.flat, Bool.false_eq_true, not_false_eq_true, not_true] at hfl
      · rename_i sz rows
        have hi : σ.ev (d * 32 + j) = none := hf1
        have hi' : ev' (d * 32 + j) = none := by
          cases hx : ev' (d * 32 + j) with
          | none => rfl
          | some x => obtain ⟨i, h3, h4⟩ := hj _ hi (by rw [hx]; simp); omega
        have hadd := hN.add hi hi' h1 (fun b hb' => (hb b (by simp [hb'])).1) hd1 (fun b hb' => (hb b (by simp [hb'])).2)
        obtain ⟨g'', k1, k2, k3⟩ := New.cells d ts vs' f2 (j + 1) _ _ _ hadd (fun e h3 h4 => by
            by_cases he : e = d * 32 + j
            · exact ⟨j, by omega, he⟩
            · rw [upd_ne _ _ he] at h4
              obtain ⟨i, hi, he⟩ := hj e h3 h4; exact ⟨i, by omega, he⟩) hf2 h2 hd2 (fun b hb' => ⟨(hb b (by simp [hb'])).1, by
              have := (hb b (by simp [hb'])).2
              simp only [List.mem_append, not_or]
              exact ⟨this, fun hf => hd3 b hf b hb' rfl⟩⟩)
        refine ⟨g'', by simpa [owE, owE1] using k1, fun e he h => ?_, fun σ' w'' hσ => ⟨v, vs', rfl, ?_, k3 σ' w'' hσ⟩⟩
        · obtain ⟨i, hi2, he⟩ := he
          have hne : e ≠ d * 32 + j := by omega
          have := k2 e ⟨i, by omega, he⟩ (by rw [upd_ne _ _ hne]; exact h)
          simp only [upd_ne _ _ hne] at this
          exact this
        · have := k2 (d * 32 + j) ⟨j, by omega, rfl⟩ (by rw [upd_same]; simp)
          simp only [upd_same] at this
          obtain ⟨y, hy⟩ := Option.ne_none_iff_exists'.1 this.2
          exact ⟨by rw [this.1], y, by rw [hσ]; exact hy, Nat.zero_le _⟩
      · unfold OwnV at h1; exact h1.elim
      · unfold OwnV at h1; exact h1.elim
      · unfold OwnV at h1; exact h1.elim

/-- The state behind a call: old memory is as it was, and there are new owned slices. -/
theorem Rel.after {n0 : Nat → Prop} {N : Nat} {σ : St} {g g' : Gh} {a : Act} {w w' : World} {ev' : Nat → Option Ev} {F : List Nat} (h : Rel n0 N σ g a w) (hn0 : LtK n0 w) (hb : Below w.heap.size w w') (hn : New σ g w w' ev' g' F) : Rel n0 N { σ with ev := ev' } g' a w' := by
  have hlt : ∀ e x, σ.ev e = none → ev' e = some x → ∀ b ∈ g'.φ e, w.heap.size ≤ b := fun e x h1 h2 b hbb => ((hn.new e x h1 h2).2.2.1 b hbb).1
  have hold : ∀ e, σ.On e → ∀ b ∈ g.φ e, b < w.heap.size := fun e he b hbb => by
    obtain ⟨x, hx, ho⟩ := he
    exact (h.evs e x hx ho).lt b hbb
  have hon : ∀ e, ({ σ with ev := ev' } : St).On e → σ.ev e ≠ none → σ.On e := fun e he hee => by
    obtain ⟨x, hx, ho⟩ := he
    exact ⟨x, (hn.old e hee).1.symm.trans hx, ho⟩
  have hne : ∀ e, ({ σ with ev := ev' } : St).On e → ∃ x, ev' e = some x := fun e he => ⟨_, he.choose_spec.1⟩
  have m : Mv σ { σ with ev := ev' } g g' w w' := by
    refine ⟨fun b hf => hb.block b hf.2.2.1, fun b hf => ⟨fun k hk => by rw [hn.β]; exact hf.1 k hk, fun e x hx ho hh => ?_, Nat.lt_of_lt_of_le hf.2.2.1 hb.size, by rw [hn.A0]; exact hf.2.2.2⟩, fun b hbb => ⟨by rw [hn.β], hbb⟩, fun e n he => ?_⟩
    · by_cases hee : σ.ev e = none
      · have := hlt e x hee hx b (List.mem_of_mem_head? hh)
        have := hf.2.2.1
        omega
      · rw [(hn.old e hee).2.2] at hh
        exact hf.2.1 e x ((hn.old e hee).1.symm.trans hx) ho hh
    · obtain ⟨x, hx, hg⟩ := he
      have hee : σ.ev e ≠ none := by rw [hx]; simp
      exact ⟨⟨x, (hn.old e hee).1.trans hx, hg⟩, by rw [(hn.old e hee).2.1]⟩
  refine ⟨h.defers, h.size, by rw [hn.A0, hn.R0]; exact h.anew, fun i => by rw [hn.R0]; exact m.vr (h.slots i), fun b cs hbb => ?_, fun b hbb => by rw [hn.β]; exact h.base b hbb, fun b b' h1 h2 h3 => by rw [hn.β] at h3; exact h.inj b b' h1 h2 h3, fun e x he ho => ?_, fun e x he ho => ?_, hn.slc, fun e he b hbb => ?_, fun e he b hbb => ?_, fun e he => ?_, fun e e' h1 h2 hne' b hb1 hb2 => ?_, fun e k he hk hm => ?_⟩
  · obtain ⟨vs, ty, k1, k2⟩ := h.boxes b cs hbb
    exact ⟨vs, ty, by rw [hn.β, hb.block _ (h.lt (by rw [hbb]; simp))]; exact k1, m.crs k2⟩
  · by_cases hee : σ.ev e = none
    · obtain ⟨⟨k1, _, k0⟩, k2, k3, k4⟩ := hn.new e x hee he
      rw [k0]
      unfold OwnV at k2
      obtain ⟨ao, cap, j1, j2, j3, j4⟩ := k2
      refine ⟨ao, cap, j1, j2, j3, ?_⟩
      rcases j4 with j4 | ⟨b, cells, ty, fps, j4, j5, j6, j7, j8⟩
      · exact Or.inl j4
      · exact Or.inr ⟨b, cells, ty, fps, j4, j5, j6, j7, by rw [if_pos k1]; exact j8⟩
    · have he' := he
      simp only [(hn.old e hee).1] at he
      rw [(hn.old e hee).2.1, (hn.old e hee).2.2]
      exact m.evr (h.evs e x he ho) fun b hbb => hb.block b (hold e ⟨x, he, ho⟩ b hbb)
  · by_cases hee : σ.ev e = none
    · obtain ⟨⟨_, k1, _⟩, _⟩ := hn.new e x hee he
      rw [k1] at ho; cases ho
    · simp only [(hn.old e hee).1] at he
      rw [(hn.old e hee).2.1]
      exact ⟨m.rep (h.offs e x he ho).1, (h.offs e x he ho).2⟩
  · by_cases hee : σ.ev e = none
    · obtain ⟨x, hx⟩ := hne e he
      rw [hn.A0, hn.R0]
      exact h.anew b (hn0.new (hlt e x hee hx b hbb))
    · rw [(hn.old e hee).2.2] at hbb
      rw [hn.A0, hn.R0]
      exact h.ebase e (hon e he hee) b hbb
  · by_cases hee : σ.ev e = none
    · obtain ⟨x, hx⟩ := hne e he
      exact hn0.new (hlt e x hee hx b hbb)
    · rw [(hn.old e hee).2.2] at hbb
      exact h.etop e (hon e he hee) b hbb
  · by_cases hee : σ.ev e = none
    · obtain ⟨x, hx⟩ := hne e he
      exact (hn.new e x hee hx).2.2.2
    · rw [(hn.old e hee).2.2]; exact h.nodup e (hon e he hee)
  · obtain ⟨x, hx⟩ := hne e h1
    obtain ⟨x', hx'⟩ := hne e' h2
    by_cases e1 : σ.ev e = none <;> by_cases e2 : σ.ev e' = none
    · exact hn.apart e e' e1 e2 (by rw [hx]; simp) (by rw [hx']; simp) hne' b hb1 hb2
    · rw [(hn.old e' e2).2.2] at hb2
      have := hlt e x e1 hx b hb1
      have := hold e' (hon e' h2 e2) b hb2
      omega
    · rw [(hn.old e e1).2.2] at hb1
      have := hlt e' x' e2 hx' b hb2
      have := hold e (hon e h1 e1) b hb1
      omega
    · rw [(hn.old e e1).2.2] at hb1
      rw [(hn.old e' e2).2.2] at hb2
      exact h.apart e e' (hon e h1 e1) (hon e' h2 e2) hne' b hb1 hb2
  · rw [hn.β] at hm
    by_cases hee : σ.ev e = none
    · obtain ⟨x, hx⟩ := hne e he
      have := hlt e x hee hx _ hm
      have := h.lt hk
      omega
    · rw [(hn.old e hee).2.2] at hm
      exact h.ebx e k (hon e he hee) hk hm

theorem OwnV.one {w : World} {t : T} {v : Value} {fp : List Nat} (h : OwnV w t v fp) : v.cells = #[v] := by
  cases t <;> unfold OwnV at h
  · rw [h.1]; rfl
  · rw [h.1]; rfl
  · rw [h.1]; rfl
  · obtain ⟨_, _, rfl, _⟩ := h; rfl
  · exact h.elim
  · exact h.elim
  · exact h.elim
theorem OwnAll.append {w : World} : ∀ {t1 t2 : List T} {v1 v2 : List Value} {f1 f2 : List Nat}, OwnAll w t1 v1 f1 → OwnAll w t2 v2 f2 → OwnAll w (t1 ++ t2) (v1 ++ v2) (f1 ++ f2)
  | [], _, _, _, _, _, h, k => by obtain ⟨rfl, rfl⟩ := h; exact k
  | t :: ts, _, _, _, _, _, h, k => by
    obtain ⟨v, vs', g1, g2, rfl, rfl, h1, h2⟩ := h
    exact ⟨v, vs' ++ _, g1, g2 ++ _, rfl, by simp, h1, OwnAll.append h2 k⟩
theorem OwnDs.cells {w : World} : ∀ {ds : List D} {us : List Value} {fp : List Nat}, OwnDs w ds us fp → OwnAll w (resCells ds) (us.flatMap fun u => u.cells.toList) fp
  | [], us, fp, h => by obtain ⟨rfl, rfl⟩ := h; exact ⟨rfl, rfl⟩
  | .one t :: ds, us, fp, h => by
    obtain ⟨v, vs', f1, f2, rfl, rfl, h1, h2⟩ := h
    have hv : OwnV w t v f1 := h1
    refine ⟨v, _, f1, f2, ?_, rfl, hv, OwnDs.cells h2⟩
    simp [hv.one]
  | .agg ts :: ds, us, fp, h => by
    obtain ⟨v, vs', f1, f2, rfl, rfl, ⟨x, rfl, h1⟩, h2⟩ := h
    have := h1.append (OwnDs.cells h2)
    simpa [resCells, Value.cells] using this
theorem owCs_append (d : Nat) : ∀ (t1 t2 : List T) (j : Nat), owCs d j (t1 ++ t2) = owCs d j t1 ++ owCs d (j + t1.length) t2
  | [], _, _ => by simp [owCs]
  | t :: ts, t2, j => by simp only [List.cons_append, owCs, owCs_append d ts t2 (j + 1), List.length_cons]; rw [show j + 1 + ts.length = j + (ts.length + 1) by omega]
theorem CRs.split {σ : St} {g : Gh} {w : World} : ∀ {cs ds : List C} {vs : List Value}, CRs σ g w (cs ++ ds) vs → ∃ v1 v2, vs = v1 ++ v2 ∧ CRs σ g w cs v1 ∧ CRs σ g w ds v2
  | [], _, vs, h => ⟨[], vs, rfl, rfl, h⟩
  | c :: cs, ds, vs, h => by
    obtain ⟨v, vs', rfl, h1, h2⟩ := h
    obtain ⟨v1, v2, rfl, k1, k2⟩ := CRs.split h2
    exact ⟨v :: v1, v2, rfl, ⟨v, v1, rfl, h1, k1⟩, k2⟩
theorem owCs_len (d : Nat) : ∀ (ts : List T) (j : Nat), (owCs d j ts).length = ts.length
  | [], _ => rfl
  | t :: ts, j => by simp [owCs, owCs_len d ts]
/-- The results, put together again. -/
theorem resD_vr {σ : St} {g : Gh} {w w1 : World} (d : Nat) : ∀ {ds : List D} {us : List Value} {fp : List Nat} (j : Nat), OwnDs w1 ds us fp → CRs σ g w (owCs d j (resCells ds)) (us.flatMap fun u => u.cells.toList) → VRl σ g w (resD d j ds) us
  | [], us, fp, j, h, _ => h.1
  | .one t :: ds, us, fp, j, h, k => by
    obtain ⟨v, vs', f1, f2, rfl, rfl, h1, h2⟩ := h
    have hv : OwnV w1 t v f1 := h1
    simp only [List.flatMap_cons, hv.one, resCells, owCs] at k
    obtain ⟨u, us', e, k1, k2⟩ := k
    simp only [List.cons_append, List.nil_append, List.cons.injEq] at e
    obtain ⟨rfl, rfl⟩ := e
    exact ⟨v, vs', rfl, k1, resD_vr d (j + 1) h2 k2⟩
  | .agg ts :: ds, us, fp, j, h, k => by
    obtain ⟨v, vs', f1, f2, rfl, rfl, ⟨x, rfl, h1⟩, h2⟩ := h
    simp only [List.flatMap_cons, Value.cells, resCells, owCs_append] at k
    obtain ⟨v1, v2, e, k1, k2⟩ := k.split
    have hl : x.length = v1.length := by
      rw [k1.len, owCs_len]
      clear k k1 k2 e h2
      induction ts generalizing x f1 with
      | nil => rw [h1.1]; rfl
      | cons t ts ih => obtain ⟨v, vs', g1, g2, rfl, rfl, _, h3⟩ := h1; simp [ih _ _ h3]
    obtain ⟨e1, e2⟩ := List.append_inj e hl
    subst e1 e2
    exact ⟨_, vs', rfl, ⟨x, rfl, k1⟩, resD_vr d (j + ts.length) h2 k2⟩
theorem tupV_vr {σ : St} {g : Gh} {w : World} {xs : List V} {us : List Value} (h : VRl σ g w xs us) (hx : ∀ x ∈ xs, x.isTup = false) : VR σ g w (tupV xs) (resVal us) := by
  have key : ∀ (xs : List V) (us : List Value), VRl σ g w xs us → (∀ x ∈ xs, x.isTup = false) → CRt σ g w (xs.map cmpV) us := by
    intro xs
    induction xs with
    | nil => intro us h _; exact h
    | cons x xs ih =>
      rintro us ⟨u, us', rfl, h1, h2⟩ hx
      refine ⟨u, us', rfl, ?_, ih us' h2 fun y hy => hx y (by simp [hy])⟩
      cases x with
      | one c => unfold CRx cmpV; simp only [Bool.false_eq_true, if_false]; exact ⟨c, rfl, h1⟩
      | agg cs => unfold CRx cmpV; simp only [if_true]; exact h1
      | tup _ => have := hx _ (List.mem_cons_self ..); simp [V.isTup] at this
  rcases xs with _ | ⟨x, _ | ⟨y, xs⟩⟩
  · rw [show us = [] from h]; exact ⟨[], rfl, rfl⟩
  · obtain ⟨u, us', rfl, h1, h2⟩ := h
    rw [show us' = [] from h2]
    exact h1
  · obtain ⟨u, us', rfl, h1, u', us'', rfl, h2⟩ := h
    exact ⟨_, rfl, key (x :: y :: xs) _ ⟨u, _, rfl, h1, u', us'', rfl, h2⟩ hx⟩
theorem resD_tup (d : Nat) : ∀ (ds : List D) (j : Nat), ∀ x ∈ resD d j ds, x.isTup = false
  | [], _, x, hx => by simp [resD] at hx
  | .one t :: ds, j, x, hx => by
    simp only [resD, List.mem_cons] at hx
    rcases hx with rfl | hx
    · rfl
    · exact resD_tup d ds _ x hx
  | .agg ts :: ds, j, x, hx => by
    simp only [resD, List.mem_cons] at hx
    rcases hx with rfl | hx
    · rfl
    · exact resD_tup d ds _ x hx

theorem gets_vr {n0 : Nat → Prop} {N : Nat} {σ : St} {g : Gh} {a : Act} {w : World} (hR : Rel n0 N σ g a w) (xs : Array Operand) (ts : Array TypeId) : VRl σ g w (σ.gets P xs ts) (xs.toList.map a.eval) := by
  unfold St.gets
  have key : ∀ (l : List Operand) (ts : List TypeId), l.length ≤ ts.length → VRl σ g w ((l.zip ts).map fun (x, t) => σ.get P t x) (l.map a.eval) := by
    intro l
    induction l with
    | nil => intro ts _; rfl
    | cons x l ih =>
      intro ts h
      cases ts with
      | nil => simp at h
      | cons t ts => exact ⟨_, _, rfl, hR.get P t x, ih ts (by simpa using h)⟩
  exact key _ _ (by simp)
theorem VRl.append {σ : St} {g : Gh} {w : World} : ∀ {x1 x2 : List V} {u1 u2 : List Value}, VRl σ g w x1 u1 → VRl σ g w x2 u2 → VRl σ g w (x1 ++ x2) (u1 ++ u2)
  | [], _, u1, _, h, k => by rw [show u1 = [] from h]; exact k
  | x :: xs, _, _, _, h, k => by
    obtain ⟨u, us', rfl, h1, h2⟩ := h
    exact ⟨u, _, rfl, h1, VRl.append h2 k⟩
/-- Arriving at a call. -/
theorem call_run {n0 : Nat → Prop} {N : Nat} {σ : St} {g : Gh} {a : Act} {w : World} (hR : Rel n0 N σ g a w) {o : Oper} {x : Operand} {as : Array Operand} {ts : Array TypeId} {f : FuncId} {cvs : List V} (ho : o.op = .call ⟨.value x, as, ts⟩)
    (hc : calleeOf (σ.get P 0 x) = some (f, cvs)) (hf : Callable P f) : ∃ vs, (execOp a.eval o).run P w = .ok (.enter f ⟨vs⟩) w ∧ VRl σ g w (σ.gets P as ts ++ cvs) vs := by
  have hv := hR.get P 0 x
  unfold calleeOf at hc
  split at hc
  · rename_i f' caps hx
    simp only [Option.some.injEq, Prod.mk.injEq] at hc
    obtain ⟨rfl, rfl⟩ := hc
    rw [hx] at hv
    obtain ⟨h1, h2⟩ := hv
    refine ⟨as.toList.map a.eval ++ caps.map fun b => .pointer (some ⟨g.β b, 0, none⟩), ?_, (gets_vr hR as ts).append ?_⟩
    · unfold execOp
      simp only [ho, resolve, h1, Deferred.ofValue, invoke, Sem.run_bind, Sem.run_pure, Result.andThen]
      refine (hf _ w).trans ?_
      congr 2
      apply Array.ext'
      simp
    · clear h1 hx
      induction caps with
      | nil => rfl
      | cons b bs ih => exact ⟨_, _, rfl, ⟨rfl, h2 b (by simp)⟩, ih fun c hc => h2 c (by simp [hc])⟩
  · rename_i f' tsT hx
    simp only [Option.some.injEq, Prod.mk.injEq] at hc
    obtain ⟨rfl, rfl⟩ := hc
    rw [hx] at hv
    simp only [VR, CR, RepV] at hv
    obtain ⟨us, h1, h2⟩ := hv
    refine ⟨as.toList.map a.eval ++ us, ?_, (gets_vr hR as ts).append ?_⟩
    · unfold execOp
      simp only [ho, resolve, h1, Deferred.ofValue, invoke, Sem.run_bind, Sem.run_pure, Result.andThen]
      refine (hf _ w).trans ?_
      congr 2
      apply Array.ext'
      simp
    · clear h1 hx
      induction tsT generalizing us with
      | nil => unfold RepAll at h2; exact h2
      | cons t ts ih =>
        unfold RepAll at h2
        obtain ⟨v, vs', rfl, k1, k2⟩ := h2
        exact ⟨_, _, rfl, k1, ih _ k2⟩
  · cases hc

theorem OwnAll.of_g {w : World} : ∀ {ts : List T} {vs : List Value} {fp tp : List Nat}, GAll w ts vs fp tp → OwnAll w ts vs fp
  | [], _, _, _, h => ⟨h.1, h.2.1⟩
  | t :: ts, _, _, _, h => by obtain ⟨v, vs', f1, f2, t2, rfl, rfl, _, h1, h2⟩ := h; exact ⟨v, vs', f1, f2, rfl, rfl, h1, OwnAll.of_g h2⟩
theorem OwnDs.of_g {w : World} : ∀ {ds : List D} {vs : List Value} {fp tp : List Nat}, GDs w ds vs fp tp → OwnDs w ds vs fp
  | [], _, _, _, h => ⟨h.1, h.2.1⟩
  | .one t :: ds, _, _, _, h => by obtain ⟨v, vs', f1, f2, t1, t2, rfl, rfl, _, h1, h2⟩ := h; exact ⟨v, vs', f1, f2, rfl, rfl, h1.1, OwnDs.of_g h2⟩
  | .agg ts :: ds, _, _, _, h => by obtain ⟨v, vs', f1, f2, t1, t2, rfl, rfl, _, ⟨a, h0, h1⟩, h2⟩ := h; exact ⟨v, vs', f1, f2, rfl, rfl, ⟨a, h0, OwnAll.of_g h1⟩, OwnDs.of_g h2⟩
theorem RepDs.gargs {w : World} : ∀ {ds : List D} {vs : List Value}, RepDs w (· < w.heap.size) ds vs → GArgs w (fun b => b < w.heap.size ∧ b ∉ ([] : List Nat)) (rd ds) vs [] []
  | [], vs, h => ⟨h, rfl, rfl⟩
  | .one t :: ds, vs, h => by obtain ⟨v, vs', rfl, h1, h2⟩ := h; exact ⟨v, vs', rfl, RepV.keep (fun _ _ => rfl) (fun b hb => ⟨hb, by simp⟩) t v h1, RepDs.gargs h2⟩
  | .agg ts :: ds, vs, h => by obtain ⟨v, vs', rfl, ⟨a, h0, h1⟩, h2⟩ := h; exact ⟨v, vs', rfl, ⟨a, h0, RepAll.keep (fun _ _ => rfl) (fun b hb => ⟨hb, by simp⟩) ts a h1⟩, RepDs.gargs h2⟩
theorem FC.use {f : FuncId} {args res : List D} (h : FC P f args res) {w : World} {vs : List Value} (hv : RepDs w (· < w.heap.size) args vs) :
    Calls P f ⟨vs⟩ w fun e w' => ∃ us fp, e = .returned (resVal us) ∧ OwnDs w' res us fp ∧ fp.Nodup ∧ (∀ b ∈ fp, w.heap.size ≤ b) ∧ Below w.heap.size w w' := by
  refine (h.2 w vs [] [] hv.gargs List.nodup_nil).mono ?_
  rintro e w' ⟨us, fp, tp, rfl, h1, h2, h3, h5⟩
  exact ⟨us, fp, rfl, OwnDs.of_g h1, h2, fun b hb => (h3 b hb).resolve_left (by simp), h5.os, h5.tape, h5.output, h5.size, fun k hk => h5.block k ⟨hk, by simp⟩⟩

theorem sem_callF {o : Oper} {σ : St} {x : Operand} {as : Array Operand} {ts : Array TypeId} {f : FuncId} {cvs : List V} {d : Nat} {ds res : List D} (ho : o.op = .call ⟨.value x, as, ts⟩) (hd : o.dst = some d)
    (h : FC P f ds res) (hc : calleeOf (σ.get P 0 x) = some (f, cvs)) (hv : VDs σ (σ.gets P as ts ++ cvs) ds) (hf : freeE d 0 (resCells res) σ.ev) : StepSem P o σ (σ.callF d res) := by
  intro n0 N g a w hR hn hdN
  obtain ⟨vs, h1, h2⟩ := call_run hR ho hc h.1
  unfold Oper.wp
  rw [h1]
  refine (h.use (VDs.rep hR hv h2)).mono ?_
  rintro e w' ⟨us, fp, rfl, o1, o2, o3, hb⟩
  obtain ⟨g', k1, k2, k3⟩ := New.cells (σ := σ) (g := g) (w := w) (w' := w') d (resCells res) _ fp 0 σ.ev g [] (New.refl _ _ _ _ hR.slc) (fun e h1 h2 => absurd h1 h2) hf o1.cells o2 (fun b hb' => ⟨o3 b hb', by simp⟩)
  have hR' := hR.after hn hb k1
  refine ⟨g', ?_, Bk.of_below hb hn, k1.A0, k1.R0⟩
  have hp := hR'.put (some d) (x := tupV (resD d 0 res)) (v := resVal us) (tupV_vr (resD_vr d 0 o1 (k3 _ _ rfl)) (resD_tup d res 0)) (fun i hi => by cases hi; exact hdN d hd)
  rw [hd]
  exact hp
theorem RepDs.vrl {σ : St} {g : Gh} {w : World} : ∀ {ds : List D} {us : List Value}, RepDs w (Fix σ g w) ds us → VRl σ g w (ds.map D.toV) us
  | [], us, h => h
  | d :: ds, us, h => by
    obtain ⟨u, us', rfl, h1, h2⟩ := h
    exact ⟨u, us', rfl, toV_vr h1, RepDs.vrl h2⟩

/- What may be read for good by a callee. -/
def VD1 (σ : St) : V → D → Prop
  | .one c, .one t => CT1 σ c t
  | .agg cs, .agg ts => CT1s σ cs ts
  | _, _ => False
def VD1s (σ : St) : List V → List D → Prop
  | [], ds => ds = []
  | v :: vs, ds => ∃ d ds', ds = d :: ds' ∧ VD1 σ v d ∧ VD1s σ vs ds'
theorem VD1s.rep {σ : St} {g : Gh} {w : World} : ∀ {xs : List V} {ds : List D}, VD1s σ xs ds → ∀ {vs : List Value}, VRl σ g w xs vs → RepDs w (Fix σ g w) ds vs
  | [], ds, h, vs, hv => by rw [show ds = [] from h]; exact hv
  | x :: xs, ds, h, vs, hv => by
    obtain ⟨d, ds', rfl, h1, h2⟩ := h
    obtain ⟨v, vs', rfl, k1, k2⟩ := hv
    refine ⟨v, vs', rfl, ?_, VD1s.rep h2 k2⟩
    unfold VD1 at h1
    split at h1
    · exact CT1.rep h1 k1
    · obtain ⟨u, rfl, k1⟩ := k1; exact ⟨u, rfl, CT1s.rep h1 k1⟩
    · exact h1.elim
theorem sem_callR {o : Oper} {σ : St} {x : Operand} {as : Array Operand} {ts : Array TypeId} {f : FuncId} {cvs : List V} {ds res : List D} (ho : o.op = .call ⟨.value x, as, ts⟩)
    (h : RC P f ds res) (hc : calleeOf (σ.get P 0 x) = some (f, cvs)) (hv : VD1s σ (σ.gets P as ts ++ cvs) ds) : StepSem P o σ (σ.callR o.dst res) := by
  intro n0 N g a w hR hn hdN
  obtain ⟨vs, h1, h2⟩ := call_run hR ho hc h.1
  unfold Oper.wp
  rw [h1]
  have hargs := (VD1s.rep hv h2).keep (A' := fun b => b < w.heap.size ∧ Fix σ g w b) (fun _ _ => rfl) fun b hb => ⟨hb.2.2.1, hb⟩
  refine (h.2 w vs (Fix σ g w) hargs).mono ?_
  rintro e w' ⟨us, rfl, o1, hb⟩
  have hR' : Rel n0 N σ g a w' := hR.after hn hb (New.refl σ g w w' hR.slc)
  refine ⟨g, ?_, Bk.of_below hb hn, rfl, rfl⟩
  have hfix : ∀ b, (b < w'.heap.size ∧ (Fix σ g w b ∨ w.heap.size ≤ b)) → Fix σ g w' b := fun b hb' => by
    rcases hb'.2 with hf | hf
    · exact ⟨hf.1, hf.2.1, hb'.1, hf.2.2.2⟩
    · refine ⟨fun k hk e => by have := hR.lt hk; omega, fun e x hx ho hh => ?_, hb'.1, (hR.anew b (hn.new hf)).1⟩
      have := (hR.evs e x hx ho).lt b (List.mem_of_mem_head? hh)
      omega
  exact hR'.put o.dst (tupV_vr (RepDs.vrl (o1.keep (fun _ _ => rfl) hfix)) (fun y hy => by
    obtain ⟨d, _, rfl⟩ := List.mem_map.1 hy
    cases d <;> rfl)) hdN

section
variable {ks : List Fr} {Q : Exit → St → Prop} {σ : St} {ops : Array Oper} {os : List Oper} {ty : TypeId} {ps : String} {af : Array Edge}
theorem exo_sem {o : Oper} {σ' : St} (hg : o.guard = none) (hs : semO o.op = true) (h : StepSem P o σ σ') (k : exo P ops os ks Q σ') : exo P ops (o :: os) ks Q σ := by
  unfold exo execOps exG
  rw [hg]
  simp only
  unfold execOp1 semS
  rw [if_pos (by rw [hs]; rfl)]
  exact ⟨σ', h, k⟩
/-- A call that returns fresh data. -/
theorem callF {d : Nat} {x : Operand} {as : Array Operand} {ts : Array TypeId} {f : FuncId} {ds res : List D} (h : FC P f ds res) (hp : onSome (calleeOf (σ.get P 0 x)) fun p => p.1 = f ∧ VDs σ (σ.gets P as ts ++ p.2) ds ∧ freeE d 0 (resCells res) σ.ev)
    (k : exo P ops os ks Q (σ.callF d res)) : exo P ops (⟨some d, .call ⟨.value x, as, ts⟩, ty, ps, af, none⟩ :: os) ks Q σ :=
  by
  obtain ⟨⟨f', cvs⟩, h1, rfl, h2, h3⟩ := onSome_ex hp
  exact exo_sem rfl rfl (sem_callF rfl rfl h h1 h2 h3) k
/-- A call whose results are read. -/
theorem callR {d : Option Nat} {x : Operand} {as : Array Operand} {ts : Array TypeId} {f : FuncId} {ds res : List D} (h : RC P f ds res) (hp : onSome (calleeOf (σ.get P 0 x)) fun p => p.1 = f ∧ VD1s σ (σ.gets P as ts ++ p.2) ds)
    (k : exo P ops os ks Q (σ.callR d res)) : exo P ops (⟨d, .call ⟨.value x, as, ts⟩, ty, ps, af, none⟩ :: os) ks Q σ :=
  by
  obtain ⟨⟨f', cvs⟩, h1, rfl, h2⟩ := onSome_ex hp
  exact exo_sem rfl rfl (sem_callR rfl h h1 h2) k
end

section
variable (ks : List Fr) (Q : Exit → St → Prop) (σ : St) (ops : Array Oper) (os : List Oper) (d : Option Nat) (ty : TypeId) (ps : String) (af : Array Edge)
theorem exo_extract (x : Operand) (i : Nat) : exo P ops (⟨d, .extract x i, ty, ps, af, none⟩ :: os) ks Q σ = thn (st P ⟨d, .extract x i, ty, ps, af, none⟩ σ) (exo P ops os ks Q) := rfl
theorem exo_fieldAddr (t : TypeId) (x : Operand) (i : Nat) : exo P ops (⟨d, .fieldAddr t x i, ty, ps, af, none⟩ :: os) ks Q σ = thn (st P ⟨d, .fieldAddr t x i, ty, ps, af, none⟩ σ) (exo P ops os ks Q) := rfl
theorem exo_field (t : TypeId) (x : Operand) (i : Nat) : exo P ops (⟨d, .field t x i, ty, ps, af, none⟩ :: os) ks Q σ = thn (st P ⟨d, .field t x i, ty, ps, af, none⟩ σ) (exo P ops os ks Q) := rfl
theorem exo_index (t : TypeId) (x i : Operand) : exo P ops (⟨d, .index t x i, ty, ps, af, none⟩ :: os) ks Q σ = thn (st P ⟨d, .index t x i, ty, ps, af, none⟩ σ) (exo P ops os ks Q) := rfl
theorem exo_nilCheck (x : Operand) : exo P ops (⟨d, .nilCheck x, ty, ps, af, none⟩ :: os) ks Q σ = thn (st P ⟨d, .nilCheck x, ty, ps, af, none⟩ σ) (exo P ops os ks Q) := rfl
theorem exo_convert (s t : TypeId) (x : Operand) : exo P ops (⟨d, .convert s t x, ty, ps, af, none⟩ :: os) ks Q σ = thn (st P ⟨d, .convert s t x, ty, ps, af, none⟩ σ) (exo P ops os ks Q) := rfl
theorem exo_alloc (t : TypeId) : exo P ops (⟨d, .alloc t, ty, ps, af, none⟩ :: os) ks Q σ = thn (st P ⟨d, .alloc t, ty, ps, af, none⟩ σ) (exo P ops os ks Q) := rfl
theorem exo_box (t : TypeId) (x : Operand) : exo P ops (⟨d, .box t x, ty, ps, af, none⟩ :: os) ks Q σ = thn (st P ⟨d, .box t x, ty, ps, af, none⟩ σ) (exo P ops os ks Q) := rfl
/-- An operation that has a step of its own here. -/
def exoS (P : Program) (ops : Array Oper) (o : Oper) (os : List Oper) (ks : List Fr) (Q : Exit → St → Prop) (σ : St) : Prop := ∃ σ', StepSem P o σ σ' ∧ exo P ops os ks Q σ'
def storeK (v : V) (A B : Prop) : Prop := if isEo v = true then A else B
theorem exo_store (t : TypeId) (a x : Operand) : exo P ops (⟨d, .store t a x, ty, ps, af, none⟩ :: os) ks Q σ = storeK (σ.get P 0 a) (exoS P ops ⟨d, .store t a x, ty, ps, af, none⟩ os ks Q σ) (thn (st P ⟨d, .store t a x, ty, ps, af, none⟩ σ) (exo P ops os ks Q)) := by
  unfold storeK
  split
  · rename_i h
    unfold exo
    rw [execOps]
    unfold exG
    simp only
    unfold execOp1
    rw [if_pos (by unfold semS semA; simp only [h, Bool.or_true])]
    rfl
  · rename_i h
    unfold exo
    rw [execOps]
    unfold exG
    simp only
    unfold execOp1
    rw [if_neg (by unfold semS semA; simpa [semO] using h)]
    rfl
theorem storeK_bx (b o : Nat) (A B : Prop) : storeK (.one (.bx b o)) A B = B := by simp [storeK, isEo]
theorem storeK_eo (e g z i o : Nat) (A B : Prop) : storeK (.one (.eo e g z i o)) A B = A := by simp [storeK, isEo]
theorem exo_build (t : TypeId) (parts : Array (Nat × Operand)) : exo P ops (⟨d, .build t parts, ty, ps, af, none⟩ :: os) ks Q σ = thn (st P ⟨d, .build t parts, ty, ps, af, none⟩ σ) (exo P ops os ks Q) := rfl
theorem exo_makeFunc (f : Fn) (x y : Array Operand) : exo P ops (⟨d, .makeFunc f x y, ty, ps, af, none⟩ :: os) ks Q σ = thn (st P ⟨d, .makeFunc f x y, ty, ps, af, none⟩ σ) (exo P ops os ks Q) := rfl
theorem exo_max (as : Array Operand) (ts : Array TypeId) : exo P ops (⟨d, .call ⟨.builtin .max, as, ts⟩, ty, ps, af, none⟩ :: os) ks Q σ = thn (st P ⟨d, .call ⟨.builtin .max, as, ts⟩, ty, ps, af, none⟩ σ) (exo P ops os ks Q) := rfl
theorem exo_min (as : Array Operand) (ts : Array TypeId) : exo P ops (⟨d, .call ⟨.builtin .min, as, ts⟩, ty, ps, af, none⟩ :: os) ks Q σ = thn (st P ⟨d, .call ⟨.builtin .min, as, ts⟩, ty, ps, af, none⟩ σ) (exo P ops os ks Q) := rfl
/-- What an operation on an owned slice does is said by rules of its own. -/
def owK (v : V) (A B : Prop) : Prop := if isOw v = true then A else B
theorem owK_ow (e g : Nat) (A B : Prop) : owK (.one (.ow e g)) A B = A := by simp [owK, isOw]
theorem owK_t (t : T) (A B : Prop) : owK (.one (.t t)) A B = B := by simp [owK, isOw]
theorem owK_nl (s : Nat) (A B : Prop) : owK (.one (.nl s)) A B = B := by simp [owK, isOw]
theorem exo_slice (t : TypeId) (x : Operand) (l h m : Option Operand) : exo P ops (⟨d, .slice t x l h m, ty, ps, af, none⟩ :: os) ks Q σ = owK (σ.get P t x) (exoS P ops ⟨d, .slice t x l h m, ty, ps, af, none⟩ os ks Q σ) (thn (st P ⟨d, .slice t x l h m, ty, ps, af, none⟩ σ) (exo P ops os ks Q)) := by
  unfold owK
  split
  · rename_i h
    unfold exo
    rw [execOps]
    unfold exG
    simp only
    unfold execOp1
    rw [if_pos (by unfold semS semA; simp only [h, Bool.or_true])]
    rfl
  · rename_i h
    unfold exo
    rw [execOps]
    unfold exG
    simp only
    unfold execOp1
    rw [if_neg (by unfold semS semA; simpa [semO] using h)]
    rfl
/-- A guarded operation. -/
def gd (P : Program) (ops : Array Oper) (os : List Oper) (ks : List Fr) (Q : Exit → St → Prop) (σ : St) (o : Oper) (c : Nat) (v : V) (want : Bool) : Prop :=
  match v with
  | .one (.t (.bool b)) => (b = want → exo P ops ({ o with guard := none } :: os) ks Q (σ.put (some c) (.one (.t (.bool want))))) ∧ (b = !want → exo P ops os ks Q ((σ.put (some c) (.one (.t (.bool !want)))).put o.dst (.tup [])))
  | .tup _ => exo P ops os ks Q (σ.put o.dst (.tup []))
  | _ => False
theorem gd_bool (o : Oper) (c : Nat) (b want : Bool) : gd P ops os ks Q σ o c (.one (.t (.bool b))) want = ((b = want → exo P ops ({ o with guard := none } :: os) ks Q (σ.put (some c) (.one (.t (.bool want))))) ∧ (b = !want → exo P ops os ks Q ((σ.put (some c) (.one (.t (.bool !want)))).put o.dst (.tup [])))) := rfl
theorem gd_tup (o : Oper) (c : Nat) (xs : List (Bool × List C)) (want : Bool) : gd P ops os ks Q σ o c (.tup xs) want = exo P ops os ks Q (σ.put o.dst (.tup [])) := rfl
theorem gd_tt (o : Oper) (c : Nat) : gd P ops os ks Q σ o c (.one (.t (.bool true))) true = exo P ops ({ o with guard := none } :: os) ks Q (σ.put (some c) (.one (.t (.bool true)))) := by
  rw [gd_bool]; simp
theorem gd_ff (o : Oper) (c : Nat) : gd P ops os ks Q σ o c (.one (.t (.bool false))) false = exo P ops ({ o with guard := none } :: os) ks Q (σ.put (some c) (.one (.t (.bool false)))) := by
  rw [gd_bool]; simp
theorem gd_tf (o : Oper) (c : Nat) : gd P ops os ks Q σ o c (.one (.t (.bool true))) false = exo P ops os ks Q ((σ.put (some c) (.one (.t (.bool true)))).put o.dst (.tup [])) := by
  rw [gd_bool]; simp
theorem gd_ft (o : Oper) (c : Nat) : gd P ops os ks Q σ o c (.one (.t (.bool false))) true = exo P ops os ks Q ((σ.put (some c) (.one (.t (.bool false)))).put o.dst (.tup [])) := by
  rw [gd_bool]; simp
theorem exo_pick (c x y : Operand) : exo P ops (⟨d, .pick c x y, ty, ps, af, none⟩ :: os) ks Q σ = thn (st P ⟨d, .pick c x y, ty, ps, af, none⟩ σ) (exo P ops os ks Q) := rfl
theorem exo_guard (op : Op) (j : Nat) (want : Bool) : exo P ops (⟨d, op, ty, ps, af, some (j, want)⟩ :: os) ks Q σ = onSome ((ops[j]?).bind (·.dst)) fun c => gd P ops os ks Q σ ⟨d, op, ty, ps, af, none⟩ c (σ.sl c) want := by
  unfold exo execOps exG
  simp only
  unfold onSome
  split
  · rename_i c hc
    simp only [hc]
    unfold gd
    split
    · rename_i b hb; rw [hb]; rfl
    · rename_i b hb; rw [hb]; rfl
    · rename_i hb hb2
      split
      · exact absurd ‹_› (hb _)
      · exact absurd ‹_› (hb2 _)
      · rfl
  · rename_i hc; simp only [hc]
end

theorem bind_some {α β : Type} (a : α) (f : α → Option β) : (some a).bind f = f a := rfl
theorem map_some {α β : Type} (a : α) (f : α → β) : (some a).map f = some (f a) := rfl
theorem getElem_zero {α : Type} (a : α) (l : List α) : (a :: l)[0]? = some a := rfl
theorem getElem_one {α : Type} (a b : α) (l : List α) : (a :: b :: l)[1]? = some b := rfl
theorem min64 : IntKind.min .i64 = -9223372036854775808 := by decide
theorem max64 : IntKind.max .i64 = 9223372036854775807 := by decide
theorem minu8 : IntKind.min .u8 = 0 := by decide
theorem maxu8 : IntKind.max .u8 = 255 := by decide
theorem minu64 : IntKind.min .u64 = 0 := by decide
theorem maxu64 : IntKind.max .u64 = 18446744073709551615 := by decide
theorem zero_le_nat (n : Nat) : (0 ≤ (n : Int)) = True := by simp
theorem nat_lt (m n : Nat) : ((m : Int) < (n : Int)) = (m < n) := by simp
theorem nat_le (m n : Nat) : ((m : Int) ≤ (n : Int)) = (m ≤ n) := by simp
theorem bytes_data (a : Array UInt8) : (ByteArray.mk a).data = a := rfl
theorem bytes_size (a : Array UInt8) : (ByteArray.mk a).size = a.size := rfl
theorem lt_self_false (n : Nat) : (n < n) = False := by simp
theorem imp_self' {p : Prop} : (True → p) = p := by simp
theorem imp_false' {p : Prop} : (False → p) = True := by simp
theorem tt_eq : (true = true) = True := by simp
theorem ff_eq : (false = false) = True := by simp
theorem tf_eq : (true = false) = False := by simp
theorem ft_eq : (false = true) = False := by simp
theorem ne_some {α : Type} (a : α) : (some a ≠ none) = True := by simp
theorem ne_some' {α : Type} (a : α) : (some a = none) = False := by simp
/-- The length of a row that is mapped. -/
theorem getD_map {α : Type} (f : α → List T) (xs : List α) (k : Nat) (h : k < xs.length) : (xs.map f).getD k [] = f xs[k] := by simp [List.getD, h]
attribute [go_sem] min64 max64 minu8 maxu8 minu64 maxu64 zero_le_nat nat_lt nat_le bytes_data bytes_size lt_self_false imp_self' imp_false' tt_eq ff_eq tf_eq ft_eq ne_some ne_some' Option.isSome_some Option.isNone_none List.length_map List.length_cons List.length_nil List.map_cons List.map_nil List.map_map List.zip_cons_cons List.zip_nil_left List.replicate List.append_nil List.nil_append List.cons_append true_and and_true and_self if_true if_false Option.map_some Option.map_none Option.bind_some Option.bind_none List.getElem?_cons_zero List.getElem?_cons_succ Int.toNat_natCast decide_true decide_false Bool.not_true Bool.not_false List.all_cons List.all_nil Bool.and_true Bool.true_and List.drop_zero List.take_zero List.drop_succ_cons List.take_succ_cons List.getElem?_map List.foldr List.not_mem_nil not_false_iff not_true List.mem_cons or_false false_or Function.comp
theorem getElem_toA (l : List Oper) (i : Nat) : l.toArray[i]? = l[i]? := by simp
attribute [go_sem] owK_ow owK_t owK_nl storeK_bx storeK_eo getElem_toA pickV pickT
attribute [go_sem ↓] exo_pick exo_guard exo_extract exo_fieldAddr exo_field exo_index exo_nilCheck exo_convert exo_alloc exo_box exo_store exo_build exo_makeFunc exo_max exo_min exo_slice
section
variable (σ : St)
theorem VDs_nil : VDs σ [] [] = True := by simp [VDs]
theorem VDs_cons (v : V) (vs : List V) (d : D) (ds : List D) : VDs σ (v :: vs) (d :: ds) = (VD σ v d ∧ VDs σ vs ds) := by
  refine propext ⟨fun ⟨d', ds', e, h1, h2⟩ => ?_, fun h => ⟨d, ds, rfl, h.1, h.2⟩⟩
  cases e; exact ⟨h1, h2⟩
theorem VD_one (c : C) (t : T) : VD σ (.one c) (.one t) = CT σ c t := rfl
theorem VD_agg (cs : List C) (ts : List T) : VD σ (.agg cs) (.agg ts) = CTs σ cs ts := rfl
theorem CTs_nil : CTs σ [] [] = True := by simp [CTs]
theorem CTs_cons (c : C) (cs : List C) (t : T) (ts : List T) : CTs σ (c :: cs) (t :: ts) = (CT σ c t ∧ CTs σ cs ts) := by
  refine propext ⟨fun ⟨d', ds', e, h1, h2⟩ => ?_, fun h => ⟨t, ts, rfl, h.1, h.2⟩⟩
  cases e; exact ⟨h1, h2⟩
theorem CTs_map (ts : List T) : CTs σ (ts.map .t) ts = True := by
  refine eq_true ?_
  induction ts with
  | nil => rfl
  | cons t ts ih => exact ⟨t, ts, rfl, rfl, ih⟩
theorem CT_t (x y : T) : CT σ (.t x) y = (x = y) := by cases y <;> rfl
theorem CT_nl (s z : Nat) (rows : List (List T)) : CT σ (.nl s) (.sl z rows) = (rows = []) := rfl
theorem CT0_ow (e g sz : Nat) (rows : List (List T)) : CT0 σ (.ow e g) (.sl sz rows) = onSome (σ.ev e) fun x => x.sz = sz ∧ x.rows = rows ∧ x.gen = g := by
  refine propext ⟨fun ⟨d, o, h⟩ => by rw [h]; exact ⟨rfl, rfl, rfl⟩, fun h => ?_⟩
  obtain ⟨⟨d, z, r, n, o⟩, h1, rfl, rfl, rfl⟩ := onSome_ex h
  exact ⟨d, o, h1⟩
theorem CT_ow (e g sz : Nat) (rows : List (List T)) : CT σ (.ow e g) (.sl sz rows) = onSome (σ.ev e) fun x => x.sz = sz ∧ x.rows = rows ∧ x.gen = g := CT0_ow σ e g sz rows
theorem CT_el (cs cs' : List T) : CT σ (.el cs 0) (.ptr cs') = (cs = cs') := by
  refine propext ⟨fun h => h.2, fun h => ⟨rfl, h⟩⟩
theorem CTb_ptr (b : Nat) (ts : List T) : CTb σ b (.ptr ts) = onSome (σ.bx b) fun cs => CT0s σ cs ts := by
  refine propext ⟨fun ⟨cs, ts', h1, h2, h3⟩ => by cases h2; rw [h1]; exact h3, fun h => ?_⟩
  obtain ⟨cs, h1, h2⟩ := onSome_ex h
  exact ⟨cs, ts, h1, rfl, h2⟩
theorem CT_bx (b : Nat) (ts : List T) : CT σ (.bx b 0) (.ptr ts) = onSome (σ.bx b) fun cs => CT0s σ cs ts := CTb_ptr σ b ts
theorem CT_fn (f g : FuncId) (caps : List Nat) (ts : List T) : CT σ (.fn f caps) (.fn g ts) = (f = g ∧ CTf σ caps ts) := rfl
theorem CTf_nil : CTf σ [] [] = True := by simp [CTf]
theorem CTf_cons (b : Nat) (bs : List Nat) (t : T) (ts : List T) : CTf σ (b :: bs) (t :: ts) = (CTb σ b t ∧ CTf σ bs ts) := by
  refine propext ⟨fun ⟨d', ds', e, h1, h2⟩ => ?_, fun h => ⟨t, ts, rfl, h.1, h.2⟩⟩
  cases e; exact ⟨h1, h2⟩
theorem CT0s_nil : CT0s σ [] [] = True := by simp [CT0s]
theorem CT0s_cons (c : C) (cs : List C) (t : T) (ts : List T) : CT0s σ (c :: cs) (t :: ts) = (CT0 σ c t ∧ CT0s σ cs ts) := by
  refine propext ⟨fun ⟨d', ds', e, h1, h2⟩ => ?_, fun h => ⟨t, ts, rfl, h.1, h.2⟩⟩
  cases e; exact ⟨h1, h2⟩
theorem CT0_t (x y : T) : CT0 σ (.t x) y = (x = y) := rfl
theorem CT0_nl (s z : Nat) (rows : List (List T)) : CT0 σ (.nl s) (.sl z rows) = (rows = []) := rfl
theorem CT0_el (cs cs' : List T) : CT0 σ (.el cs 0) (.ptr cs') = (cs = cs') := by
  refine propext ⟨fun h => h.2, fun h => ⟨rfl, h⟩⟩
theorem VD1s_nil : VD1s σ [] [] = True := by simp [VD1s]
theorem VD1s_cons (v : V) (vs : List V) (d : D) (ds : List D) : VD1s σ (v :: vs) (d :: ds) = (VD1 σ v d ∧ VD1s σ vs ds) := by
  refine propext ⟨fun ⟨d', ds', e, h1, h2⟩ => ?_, fun h => ⟨d, ds, rfl, h.1, h.2⟩⟩
  cases e; exact ⟨h1, h2⟩
theorem VD1_one (c : C) (t : T) : VD1 σ (.one c) (.one t) = CT1 σ c t := rfl
theorem VD1_agg (cs : List C) (ts : List T) : VD1 σ (.agg cs) (.agg ts) = CT1s σ cs ts := rfl
theorem CT1s_nil : CT1s σ [] [] = True := by simp [CT1s]
theorem CT1s_cons (c : C) (cs : List C) (t : T) (ts : List T) : CT1s σ (c :: cs) (t :: ts) = (CT1 σ c t ∧ CT1s σ cs ts) := by
  refine propext ⟨fun ⟨d', ds', e, h1, h2⟩ => ?_, fun h => ⟨t, ts, rfl, h.1, h.2⟩⟩
  cases e; exact ⟨h1, h2⟩
theorem CT1_t (x y : T) : CT1 σ (.t x) y = (x = y) := rfl
theorem CT1_nl (s z : Nat) (rows : List (List T)) : CT1 σ (.nl s) (.sl z rows) = (rows = []) := rfl
theorem CT1_el (cs cs' : List T) : CT1 σ (.el cs 0) (.ptr cs') = (cs = cs') := by
  refine propext ⟨fun h => h.2, fun h => ⟨rfl, h⟩⟩
end
attribute [go_sem] VDs_nil VDs_cons VD_one VD_agg CTs_nil CTs_cons CTs_map CT_t CT_nl CT0_ow CT_ow CT_el CTb_ptr CT_bx CT_fn CTf_nil CTf_cons CT0s_nil CT0s_cons CT0_t CT0_nl CT0_el VD1s_nil VD1s_cons VD1_one VD1_agg CT1s_nil CT1s_cons CT1_t CT1_nl CT1_el
attribute [go_sem] gd_bool gd_tup LoopQ_normal LoopQ_exit LoopQ_ret bind_some map_some St.gets calleeOf freeE free1 owE owE1 owCs owC resCells resD cmpV tupV St.callF St.callR initG initS initE gV gE rd D.toV PF PR onSome_some resList resOf ownV ownK own1 RV V.cells V.isTup C.good goodV buildC setR boxesOf T.flat
/- What simp looks into, and what it leaves till it is needed. -/
theorem exo_cg {P : Program} {ops : Array Oper} {os : List Oper} {ks : List Fr} {Q : Exit → St → Prop} {σ σ' : St} (h : σ = σ') : exo P ops os ks Q σ = exo P ops os ks Q σ' := h ▸ rfl
theorem exoS_cg {P : Program} {ops : Array Oper} {o : Oper} {os : List Oper} {ks : List Fr} {Q : Exit → St → Prop} {σ σ' : St} (h : σ = σ') : exoS P ops o os ks Q σ = exoS P ops o os ks Q σ' := h ▸ rfl
theorem ex_cg {P : Program} {c : Code} {ks : List Fr} {Q : Exit → St → Prop} {σ σ' : St} (h : σ = σ') : ex P c ks Q σ = ex P c ks Q σ' := h ▸ rfl
theorem rt_cg {P : Program} {e : Exit} {ks : List Fr} {Q : Exit → St → Prop} {σ σ' : St} (h : σ = σ') : rt P e ks Q σ = rt P e ks Q σ' := h ▸ rfl
theorem thn_cg {s s' : Step} {K : St → Prop} (h : s = s') : thn s K = thn s' K := h ▸ rfl
theorem tst_cg {v v' : V} {a b : Prop} (h : v = v') : tst v a b = tst v' a b := h ▸ rfl
theorem gd_cg {P : Program} {ops : Array Oper} {os : List Oper} {ks : List Fr} {Q : Exit → St → Prop} {σ : St} {o : Oper} {c : Nat} {v v' : V} {want : Bool} (h : v = v') : gd P ops os ks Q σ o c v want = gd P ops os ks Q σ o c v' want := h ▸ rfl
theorem storeK_cg {v v' : V} {A B : Prop} (h : v = v') : storeK v A B = storeK v' A B := h ▸ rfl
theorem owK_cg {v v' : V} {A B : Prop} (h : v = v') : owK v A B = owK v' A B := h ▸ rfl
theorem tst_true (a b : Prop) : tst (.one (.t (.bool true))) a b = a := by simp [tst]
theorem tst_false (a b : Prop) : tst (.one (.t (.bool false))) a b = b := by simp [tst]
attribute [go_sem high] tst_true tst_false gd_tt gd_ff gd_tf gd_ft
theorem onSome_cg {α : Type} {x x' : Option α} {K : α → Prop} (h : x = x') : onSome x K = onSome x' K := h ▸ rfl
attribute [congr] exo_cg exoS_cg ex_cg rt_cg thn_cg tst_cg gd_cg storeK_cg owK_cg onSome_cg
end Go.Proofs.Ytgfjbbbkploonaa
