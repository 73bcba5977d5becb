/-
  The walk over plain data: append is sound on states.
  Conditions: none.
-/
import Derived.Test.YtgfjbbbkploonaaSxN
namespace Go.Proofs.Ytgfjbbbkploonaa
set_option linter.unusedSimpArgs false
set_option linter.unusedVariables false
open Go.RowKit
variable {P : Program}

/-- What is appended to: the owned slice e, or the nil slice (then e is a new name). -/
structure Tgt (n0 : Nat → Prop) (σ : St) (g : Gh) (w : World) (e : Nat) (x : Ev) (v : Value) (vs : List Value) (fps : List Nat) (top : Option Nat) : Prop where
  lens : lens x.sz x.rows
  len : vs.length = x.rows.length * x.sz
  rep : RepAll w (Fix σ g w) x.rows.flatten vs
  own : x.deep = true → OwnAll w x.rows.flatten vs fps
  val : (v = .slice none 0 0 ∧ x.rows = [] ∧ vs = [] ∧ top = none ∧ fps = []) ∨ ∃ b cap cells ty, v = .slice (some ⟨b, 0, none⟩) x.rows.length cap ∧ x.rows.length ≤ cap ∧ cap ≤ maxI ∧ w.heap[b]? = some (.cells cells ty (0, 0)) ∧ cells.size = cap * x.sz ∧ cells.toList.take (x.rows.length * x.sz) = vs ∧ top = some b
  fix : ∀ b, Fix σ g w b → some b ≠ top
  bx : ∀ b, (some b = top ∨ b ∈ fps) → (∀ k, σ.bx k ≠ none → g.β k ≠ b) ∧ (g.A0 b ∧ g.R0 b ∧ ¬ n0 b) ∧ b < w.heap.size ∧ ∀ e', e' ≠ e → σ.On e' → b ∉ g.φ e'
  nodup : fps.Nodup
  topfp : ∀ b, some b = top → b ∉ fps
  shal : x.deep = false → fps = []

theorem Rel.tgt {n0 : Nat → Prop} {N : Nat} {σ : St} {g : Gh} {a : Act} {w : World} (h : Rel n0 N σ g a w) {e : Nat} {x : Ev} (he : σ.ev e = some x) (ho : x.on = true) : ∃ vs fps top, Tgt n0 σ g w e x (g.ψ e x.gen) vs fps top := by
  obtain ⟨ao, cap, vs, h1, h2, h3, h4, h5, h6, h7⟩ := h.vals he ho
  have hne : σ.On e := ⟨x, he, ho⟩
  rcases h7 with ⟨rfl, rfl, k3, k4⟩ | ⟨b, cells, ty, fps, rfl, k2, k3, k4, k5, k6, k7⟩
  · have hvs : vs = [] := List.eq_nil_of_length_eq_zero (by rw [h5, k3]; simp)
    refine ⟨vs, [], none, h4, h5, h6, fun _ => ?_, Or.inl ⟨by rw [h1, k3]; rfl, k3, hvs, rfl, rfl⟩, by simp, by simp, List.nodup_nil, by simp, fun _ => rfl⟩
    rw [k3, hvs]; exact ⟨rfl, rfl⟩
  · have hn := h.nodup e hne
    rw [k2] at hn
    have hmem : ∀ b', (some b' = some b ∨ b' ∈ fps) → b' ∈ g.φ e := fun b' hb' => by
      rw [k2]
      rcases hb' with hb' | hb'
      · cases hb'; simp
      · simp [hb']
    refine ⟨vs, fps, some b, h4, h5, h6, k6, Or.inr ⟨b, cap, cells, ty, h1, h2, h3, k3, k4, k5, rfl⟩, fun b' hf hb' => ?_, fun b' hb' => ⟨fun k hk hkb => h.ebx e k hne hk (hkb ▸ hmem b' hb'), ⟨(h.ebase e hne b' (hmem b' hb')).1, (h.ebase e hne b' (hmem b' hb')).2, h.etop e hne b' (hmem b' hb')⟩, (h.evs e x he ho).lt b' (hmem b' hb'), fun e' hee he' hm => h.apart e e' hne he' (Ne.symm hee) b' (hmem b' hb') hm⟩, (List.nodup_cons.1 hn).2, fun b' hb' => by cases hb'; exact (List.nodup_cons.1 hn).1, k7⟩
    exact hf.2.1 e x he ho (by rw [k2]; exact hb'.symm)

theorem Tgt.nil {n0 : Nat → Prop} {σ : St} {g : Gh} {w : World} (e sz : Nat) : Tgt n0 σ g w e ⟨true, sz, [], 0, true⟩ (.slice none 0 0) [] [] none :=
  ⟨by simp [Go.Proofs.Ytgfjbbbkploonaa.lens], by simp, by unfold RepAll; rfl, fun _ => ⟨rfl, rfl⟩, Or.inl ⟨rfl, rfl, rfl, rfl, rfl⟩, by simp, by simp, List.nodup_nil, by simp, fun _ => rfl⟩

/-- The slice e2 is only read from here on. -/
def Ev.off (x : Ev) : Ev := { x with on := false }
def offs : List (Nat × Ev) → (Nat → Option Ev) → (Nat → Option Ev)
  | [], f => f
  | (e2, x2) :: l, f => upd (offs l f) e2 (some x2.off)
theorem offs_at {f : Nat → Option Ev} : ∀ {l : List (Nat × Ev)} (e : Nat) (x : Ev), offs l f e = some x → (f e = some x ∧ ∀ p ∈ l, p.1 ≠ e) ∨ ∃ y, (e, y) ∈ l ∧ x = y.off
  | [], e, x, h => Or.inl ⟨h, by simp⟩
  | (e2, x2) :: l, e, x, h => by
    unfold offs at h
    by_cases he : e = e2
    · subst he
      rw [upd_same, Option.some.injEq] at h
      exact Or.inr ⟨x2, by simp, h.symm⟩
    · rw [upd_ne _ _ he] at h
      rcases offs_at e x h with ⟨h1, h2⟩ | ⟨y, h1, h2⟩
      · refine Or.inl ⟨h1, fun p hp => ?_⟩
        rcases List.mem_cons.1 hp with rfl | hp
        · exact fun hh => he hh.symm
        · exact h2 p hp
      · exact Or.inr ⟨y, by simp [h1], h2⟩
theorem offs_some {f : Nat → Option Ev} : ∀ {l : List (Nat × Ev)} (e : Nat) (x : Ev), (∀ p ∈ l, f p.1 = some p.2) → f e = some x → ∃ y, offs l f e = some y ∧ y.gen = x.gen
  | [], e, x, _, h => ⟨x, h, rfl⟩
  | (e2, x2) :: l, e, x, hl, h => by
    unfold offs
    by_cases he : e = e2
    · subst he
      have := hl (e, x2) (by simp)
      rw [h, Option.some.injEq] at this
      subst this
      exact ⟨x.off, by rw [upd_same], rfl⟩
    · rw [upd_ne _ _ he]
      exact offs_some e x (fun p hp => hl p (by simp [hp])) h
/-- The state behind an append: e holds the elements; the sources that went into it are only read from here on. -/
def St.apd (σ : St) (e : Nat) (cons : List (Nat × Ev)) (x : Ev) : St :=
  { σ with ev := upd (offs cons σ.ev) e (some x) }

theorem Rel.apd_fin {n0 : Nat → Prop} {N : Nat} {σ : St} {g : Gh} {a : Act} {w w' : World} (hR : Rel n0 N σ g a w) {e : Nat} {x y : Ev} {v v' : Value} {vs : List Value} {fps : List Nat} {top : Option Nat} (ht : Tgt n0 σ g w e x v vs fps top)
    (hy : y.on = true) (hst : ∀ n, σ.has e n → n ≤ y.gen ∧ (n = y.gen → g.ψ e n = v'))
    {cons : List (Nat × Ev)} (hc : ∀ p ∈ cons, σ.ev p.1 = some p.2 ∧ p.2.on = true ∧ p.1 ≠ e) {fps2 : List Nat} (hf2 : ∀ b ∈ fps2, ∃ p ∈ cons, b ∈ g.φ p.1)
    (nb : Nat) (hnb0 : some nb = top ∨ w.heap.size ≤ nb) (hsame : ∀ k, k < w.heap.size → k ≠ nb → w'.heap[k]? = w.heap[k]?) (hsize : w.heap.size ≤ w'.heap.size) (hn0 : LtK n0 w)
    {fp' : List Nat} (hn' : fp'.Nodup) (hfp : ∀ b ∈ fp', b = nb ∨ b ∈ fps ∨ b ∈ fps2) (hhead : ∀ b, fp'.head? = some b → b = nb)
    (hEv : ∀ A' : Nat → Prop, (∀ b, Fix σ g w b → A' b) → EvR w' A' y v' fp') :
    Rel n0 N (σ.apd e cons y) { g with ψ := upd g.ψ e (upd (g.ψ e) y.gen v'), φ := upd g.φ e fp' } a w' := by
  have hnb : ∀ b, Fix σ g w b → b ≠ nb := fun b hf hb => by
    subst hb
    rcases hnb0 with hh | hh
    · exact ht.fix b hf hh
    · have := hf.2.2.1; omega
  have hbxb : ∀ k, σ.bx k ≠ none → g.β k ≠ nb := fun k hk hkn => by
    rcases hnb0 with hh | hh
    · exact (ht.bx nb (Or.inl hh)).1 k hk hkn
    · have := hR.lt hk; omega
  have hltO : ∀ e', σ.On e' → ∀ b ∈ g.φ e', b < w.heap.size := fun e' he' b hb => by
    obtain ⟨z, hz, ho⟩ := he'
    exact (hR.evs e' z hz ho).lt b hb
  have hevb : ∀ e', e' ≠ e → σ.On e' → nb ∉ g.φ e' := fun e' hee he' hm => by
    rcases hnb0 with hh | hh
    · exact (ht.bx nb (Or.inl hh)).2.2.2 e' hee he' hm
    · have := hltO e' he' _ hm; omega
  have hcO : ∀ p ∈ cons, σ.On p.1 := fun p hp => ⟨p.2, (hc p hp).1, (hc p hp).2.1⟩
  -- the events behind it
  have hev : ∀ e' z, e' ≠ e → (σ.apd e cons y).ev e' = some z → (σ.ev e' = some z ∧ ∀ p ∈ cons, p.1 ≠ e') ∨ ∃ q, (e', q) ∈ cons ∧ z = q.off := fun e' z hee he' => by
    simp only [St.apd, upd_ne _ _ hee] at he'
    exact offs_at e' z he'
  have hlive : ∀ e' z, e' ≠ e → (σ.apd e cons y).ev e' = some z → z.on = true → σ.ev e' = some z ∧ ∀ p ∈ cons, p.1 ≠ e' := fun e' z hee he' ho => by
    rcases hev e' z hee he' with h | ⟨q, _, h⟩
    · exact h
    · rw [h] at ho; cases ho
  have hon : ∀ e', e' ≠ e → (σ.apd e cons y).On e' → σ.On e' ∧ ∀ p ∈ cons, p.1 ≠ e' := fun e' hee he' => by
    obtain ⟨z, hz, ho⟩ := he'
    obtain ⟨h1, h2⟩ := hlive e' z hee hz ho
    exact ⟨⟨z, h1, ho⟩, h2⟩
  have hyE : (σ.apd e cons y).ev e = some y := by simp [St.apd, upd_same]
  have hfix : ∀ b, b < w.heap.size → g.A0 b → (∀ k, σ.bx k ≠ none → g.β k ≠ b) → b ≠ nb → (∀ e', e' ≠ e → (σ.apd e cons y).On e' → (g.φ e').head? ≠ some b) → Fix (σ.apd e cons y) { g with ψ := upd g.ψ e (upd (g.ψ e) y.gen v'), φ := upd g.φ e fp' } w' b := fun b h1 h2 h3 h4 h5 => by
    refine ⟨h3, fun e' z he' ho' hh => ?_, Nat.lt_of_lt_of_le h1 hsize, h2⟩
    by_cases hee : e' = e
    · subst hee
      simp only [upd_same] at hh
      exact h4 (hhead b hh)
    · simp only [upd_ne _ _ hee] at hh
      exact h5 e' hee ⟨z, he', ho'⟩ hh
  have hb2 : ∀ b, Fix σ g w b → Fix (σ.apd e cons y) { g with ψ := upd g.ψ e (upd (g.ψ e) y.gen v'), φ := upd g.φ e fp' } w' b := fun b hf =>
    hfix b hf.2.2.1 hf.2.2.2 hf.1 (hnb b hf) fun e' hee he' => by
      obtain ⟨z, hz, ho⟩ := (hon e' hee he').1
      exact hf.2.1 e' z hz ho
  have hb1 : ∀ b, Fix σ g w b → w'.heap[b]? = w.heap[b]? := fun b hf => hsame b hf.2.2.1 (hnb b hf)
  have hψ : ∀ e' n, σ.has e' n → (upd g.ψ e (upd (g.ψ e) y.gen v')) e' n = g.ψ e' n := fun e' n he' => by
    by_cases hee : e' = e
    · subst hee
      have := hst n he'
      rw [upd_same]
      by_cases hn : n = y.gen
      · rw [this.2 hn, hn, upd_same]
      · rw [upd_ne _ _ hn]
    · rw [upd_ne _ _ hee]
  have m : Mv σ (σ.apd e cons y) g { g with ψ := upd g.ψ e (upd (g.ψ e) y.gen v'), φ := upd g.φ e fp' } w w' := by
    refine ⟨hb1, hb2, fun b hb => ⟨rfl, hb⟩, fun e' n he' => ⟨?_, hψ e' n he'⟩⟩
    by_cases hee : e' = e
    · subst hee
      exact ⟨y, hyE, (hst n he').1⟩
    · obtain ⟨z, hz, hn⟩ := he'
      obtain ⟨q, h1, h2⟩ := offs_some (l := cons) e' z (fun p hp => (hc p hp).1) hz
      exact ⟨q, by simp only [St.apd, upd_ne _ _ hee]; exact h1, by omega⟩
  -- a source that went in reads for good
  have hread : ∀ e2 x2, (e2, x2) ∈ cons → RepV w' (Fix (σ.apd e cons y) { g with ψ := upd g.ψ e (upd (g.ψ e) y.gen v'), φ := upd g.φ e fp' } w') (.sl x2.sz x2.rows) (g.ψ e2 x2.gen) ∧ Hd0 (g.ψ e2 x2.gen) := fun e2 x2 hcc => by
    obtain ⟨he2, ho2, hne⟩ := hc _ hcc
    have hl2 : σ.On e2 := hcO _ hcc
    obtain ⟨ao, cap, vs2, k1, k2, k3, k4, k5, k6, k7⟩ := hR.vals he2 ho2
    rcases k7 with ⟨rfl, _, j3, _⟩ | ⟨b, cells, ty, fps', rfl, j2, j3, j4, j5, _, _⟩
    · refine ⟨?_, fun b o s n c hh => by simp only at k1; rw [k1] at hh; cases hh⟩
      unfold RepV
      exact ⟨none, cap, k1, k2, k3, Or.inl j3⟩
    · have hbm : b ∈ g.φ e2 := by simp only at j2; rw [j2]; simp
      have hbl : b < w.heap.size := hltO e2 hl2 b hbm
      have hF : Fix (σ.apd e cons y) { g with ψ := upd g.ψ e (upd (g.ψ e) y.gen v'), φ := upd g.φ e fp' } w' b := hfix b hbl (hR.ebase e2 hl2 b hbm).1 (fun k hk hkb => hR.ebx e2 k hl2 hk (hkb ▸ hbm)) (fun hbb => hevb e2 hne hl2 (hbb ▸ hbm)) fun e' hee he' hh => by
        obtain ⟨q1, q2⟩ := hon e' hee he'
        exact hR.apart e2 e' hl2 q1 (q2 _ hcc) b hbm (List.mem_of_mem_head? hh)
      have hsb : w'.heap[b]? = w.heap[b]? := hsame b hbl fun hbb => hevb e2 hne hl2 (hbb ▸ hbm)
      have hrows : RepRows w' (Fix (σ.apd e cons y) { g with ψ := upd g.ψ e (upd (g.ψ e) y.gen v'), φ := upd g.φ e fp' } w') b 0 x2.sz x2.rows := by
        refine RepRows.of_vals (vs := vs2) k4 (RepAll.keep hb1 hb2 _ _ k6) fun j u hu => ?_
        rw [← j5, List.getElem?_take] at hu
        split at hu
        · simpa [World.cell?, hsb, j3] using hu
        · cases hu
      refine ⟨?_, fun b' o s n c hh => ?_⟩
      · unfold RepV
        exact ⟨_, cap, k1, k2, k3, Or.inr ⟨b, 0, rfl, hF, hrows⟩⟩
      · simp only at k1
        rw [k1] at hh
        injection hh with hh _ _
        simp only [Option.some.injEq, Addr.mk.injEq] at hh
        exact ⟨hh.2.1.symm, hh.2.2.symm⟩
  have hnn : ¬ n0 nb := by
    rcases hnb0 with hh | hh
    · exact (ht.bx nb (Or.inl hh)).2.1.2.2
    · exact hn0.new hh
  have hfpP : ∀ b ∈ fp', (g.A0 b ∧ g.R0 b) ∧ (∀ e', e' ≠ e → (σ.apd e cons y).On e' → b ∉ g.φ e') ∧ ∀ k, σ.bx k ≠ none → g.β k ≠ b := fun b hb => by
    have old : (some b = top ∨ b ∈ fps) → (g.A0 b ∧ g.R0 b) ∧ (∀ e', e' ≠ e → (σ.apd e cons y).On e' → b ∉ g.φ e') ∧ ∀ k, σ.bx k ≠ none → g.β k ≠ b := fun hb => by
      obtain ⟨q1, q2, q3, q4⟩ := ht.bx b hb
      exact ⟨⟨q2.1, q2.2.1⟩, fun e' hee he' => q4 e' hee (hon e' hee he').1, q1⟩
    rcases hfp b hb with rfl | hb | hb
    · rcases hnb0 with hh | hh
      · exact old (Or.inl hh)
      · exact ⟨hR.anew b (hn0.new hh), fun e' hee he' hm => hevb e' hee (hon e' hee he').1 hm, fun k hk => hbxb k hk⟩
    · exact old (Or.inr hb)
    · obtain ⟨p, hcc, hm⟩ := hf2 b hb
      have hl2 := hcO p hcc
      exact ⟨hR.ebase p.1 hl2 b hm, fun e' hee he' hm2 => by
        obtain ⟨q1, q2⟩ := hon e' hee he'
        exact hR.apart p.1 e' hl2 q1 (q2 p hcc) b hm hm2, fun k hk hkb => hR.ebx p.1 k hl2 hk (hkb ▸ hm)⟩
  have hfpN : ∀ b ∈ fp', ¬ n0 b := fun b hb => by
    rcases hfp b hb with rfl | hb | hb
    · exact hnn
    · exact (ht.bx b (Or.inr hb)).2.1.2.2
    · obtain ⟨p, hcc, hm⟩ := hf2 b hb
      exact hR.etop p.1 (hcO p hcc) b hm
  refine ⟨hR.defers, hR.size, hR.anew, fun i => m.vr (hR.slots i), fun b cs hb => ?_, hR.base, hR.inj, fun e' z he ho => ?_, fun e' z he ho => ?_, fun e' n => ?_, fun e' he b hb => ?_, fun e' he b hb => ?_, fun e' he => ?_, fun e1 e2 h1 h2 hne b k1 k2 => ?_, fun e' k he hk hm => ?_⟩
  · have hb' : σ.bx b = some cs := hb
    obtain ⟨vs, ty, k1, k2⟩ := hR.boxes b cs hb'
    exact ⟨vs, ty, by
      show w'.heap[g.β b]? = _
      rw [hsame _ (hR.lt (by rw [hb']; simp)) (hbxb b (by rw [hb']; simp))]; exact k1, m.crs k2⟩
  · by_cases hee : e' = e
    · subst hee
      rw [hyE, Option.some.injEq] at he
      subst he
      simp only [upd_same]
      exact hEv _ hb2
    · simp only [upd_ne _ _ hee]
      have h1 := (hlive e' z hee he ho).1
      have hO : σ.On e' := ⟨z, h1, ho⟩
      exact m.evr (hR.evs e' z h1 ho) fun b hb => hsame b (hltO e' hO b hb) fun hbb => hevb e' hee hO (hbb ▸ hb)
  · by_cases hee : e' = e
    · subst hee
      rw [hyE, Option.some.injEq] at he
      subst he
      rw [hy] at ho; cases ho
    · simp only [upd_ne _ _ hee]
      rcases hev e' z hee he with ⟨h1, _⟩ | ⟨q, hq, rfl⟩
      · exact ⟨m.rep (hR.offs e' z h1 ho).1, (hR.offs e' z h1 ho).2⟩
      · exact hread e' q hq
  · by_cases hee : e' = e
    · subst hee
      simp only [upd_same]
      by_cases hg : n = y.gen
      · subst hg
        obtain ⟨ao, cap, k1, _⟩ := hEv (fun _ => True) fun _ _ => trivial
        exact ⟨ao, _, cap, by rw [upd_same]; exact k1⟩
      · rw [upd_ne _ _ hg]; exact hR.slc e' n
    · simp only [upd_ne _ _ hee]; exact hR.slc e' n
  · by_cases hee : e' = e
    · subst hee
      simp only [upd_same] at hb
      exact (hfpP b hb).1
    · simp only [upd_ne _ _ hee] at hb; exact hR.ebase e' (hon e' hee he).1 b hb
  · by_cases hee : e' = e
    · subst hee
      simp only [upd_same] at hb
      exact hfpN b hb
    · simp only [upd_ne _ _ hee] at hb; exact hR.etop e' (hon e' hee he).1 b hb
  · by_cases hee : e' = e
    · subst hee
      simp only [upd_same]; exact hn'
    · simp only [upd_ne _ _ hee]; exact hR.nodup e' (hon e' hee he).1
  · by_cases he1 : e1 = e <;> by_cases he2 : e2 = e
    · exact hne (he1.trans he2.symm)
    · subst he1
      simp only [upd_same, upd_ne _ _ he2] at k1 k2
      exact (hfpP b k1).2.1 e2 he2 h2 k2
    · subst he2
      simp only [upd_same, upd_ne _ _ he1] at k1 k2
      exact (hfpP b k2).2.1 e1 he1 h1 k1
    · simp only [upd_ne _ _ he1, upd_ne _ _ he2] at k1 k2
      exact hR.apart e1 e2 (hon e1 he1 h1).1 (hon e2 he2 h2).1 hne b k1 k2
  · by_cases hee : e' = e
    · subst hee
      simp only [upd_same] at hm
      exact (hfpP _ hm).2.2 k hk rfl
    · simp only [upd_ne _ _ hee] at hm; exact hR.ebx e' k (hon e' hee he).1 hk hm

/-- The source of an append: an owned slice, or one that is only read. -/
structure Src (σ : St) (g : Gh) (w : World) (e : Nat) (cons : List (Nat × Ev)) (sz : Nat) (rows2 : List (List T)) (dp2 : Bool) (v : Value) : Prop where
  ex : ∃ ao cap news fps2, v = .slice ao rows2.length cap ∧ lens sz rows2 ∧ news.length = rows2.length * sz ∧ RepAll w (Fix σ g w) rows2.flatten news ∧ (dp2 = true → OwnAll w rows2.flatten news fps2) ∧ fps2.Nodup ∧
    (∀ b ∈ fps2, ∃ p ∈ cons, b ∈ (g.φ p.1).tail) ∧ (rows2.length = 0 ∨ ∃ a : Addr, ao = some a ∧ ∀ j u, news[j]? = some u → w.cell? (a.add j) = some u)
  cons : ∀ p ∈ cons, σ.ev p.1 = some p.2 ∧ p.2.on = true ∧ p.1 ≠ e

theorem Src.own {n0 : Nat → Prop} {N : Nat} {σ : St} {g : Gh} {a : Act} {w : World} (hR : Rel n0 N σ g a w) {e e2 : Nat} {x2 : Ev} (h : σ.ev e2 = some x2) (ho : x2.on = true) (hne : e2 ≠ e) : Src σ g w e [(e2, x2)] x2.sz x2.rows x2.deep (g.ψ e2 x2.gen) := by
  refine ⟨?_, fun p hh => by simp only [List.mem_cons, List.not_mem_nil, or_false] at hh; subst hh; exact ⟨h, ho, hne⟩⟩
  obtain ⟨ao, cap, vs, h1, h2, h3, h4, h5, h6, h7⟩ := hR.vals h ho
  rcases h7 with ⟨rfl, _, j3, _⟩ | ⟨b, cells, ty, fps, rfl, j2, j3, j4, j5, j6, _⟩
  · refine ⟨none, cap, vs, [], h1, h4, h5, h6, fun _ => ?_, List.nodup_nil, by simp, Or.inl (by rw [j3]; rfl)⟩
    have : vs = [] := List.eq_nil_of_length_eq_zero (by rw [h5, j3]; simp)
    rw [j3, this]; exact ⟨rfl, rfl⟩
  · have hn := hR.nodup e2 ⟨x2, h, ho⟩
    rw [j2] at hn
    refine ⟨_, cap, vs, fps, h1, h4, h5, h6, j6, (List.nodup_cons.1 hn).2, fun b' hb' => ⟨(e2, x2), by simp, by simp only; rw [j2]; exact hb'⟩, Or.inr ⟨_, rfl, fun j u hu => ?_⟩⟩
    rw [addr_add, Nat.zero_add]
    rw [← j5, List.getElem?_take] at hu
    split at hu
    · simpa [World.cell?, j3] using hu
    · cases hu
theorem Src.rd {n0 : Nat → Prop} {N : Nat} {σ : St} {g : Gh} {a : Act} {w : World} (hR : Rel n0 N σ g a w) (e : Nat) {sz : Nat} {rows2 : List (List T)} {v : Value} (h : RepV w (Fix σ g w) (.sl sz rows2) v) {dp2 : Bool} (hd : dp2 = true → ∀ c ∈ rows2.flatten, c.flat = true) : Src σ g w e [] sz rows2 dp2 v := by
  refine ⟨?_, fun _ hh => (nomatch hh)⟩
  unfold RepV at h
  obtain ⟨ao, cap, h1, h2, h3, h4⟩ := h
  rcases h4 with rfl | ⟨b, o, rfl, h4, h5⟩
  · exact ⟨ao, cap, [], [], h1, by simp [lens], by simp, by unfold RepAll; rfl, fun _ => ⟨rfl, rfl⟩, List.nodup_nil, by simp, Or.inl rfl⟩
  · obtain ⟨l, vs, k1, k2, k3⟩ := h5.vals
    refine ⟨_, cap, vs, [], h1, l, k1, k3, fun hh => k3.own (hd hh), List.nodup_nil, by simp, Or.inr ⟨_, rfl, fun j u hu => by rw [addr_add]; exact k2 j u hu⟩⟩
theorem Src.nl {σ : St} {g : Gh} {w : World} (e sz : Nat) : Src σ g w e [] sz [] true (.slice none 0 0) :=
  ⟨⟨none, 0, [], [], rfl, by simp [lens], by simp, by unfold RepAll; rfl, fun _ => ⟨rfl, rfl⟩, List.nodup_nil, by simp, Or.inl rfl⟩, fun _ hh => (nomatch hh)⟩

/-- The whole of an append: the result is the owned slice e. -/
theorem Rel.append {n0 : Nat → Prop} {N : Nat} {σ : St} {g : Gh} {a : Act} {w : World} (hR : Rel n0 N σ g a w) (hn0 : LtK n0 w) {e : Nat} {x : Ev} {v : Value} {vs : List Value} {fps : List Nat} {top : Option Nat} (ht : Tgt n0 σ g w e x v vs fps top)
    {gn : Nat} (hst : ∀ n, σ.has e n → n < gn) {cons : List (Nat × Ev)} {rows2 : List (List T)} {dp2 : Bool} {u : Value} (hs : Src σ g w e cons x.sz rows2 dp2 u) {dp : Bool} (hdp : dp = true → x.deep = true ∧ dp2 = true)
    (t ty el : TypeId) (bytes : Nat) (hty : P.underlying t = some (.slice el)) (hn : sizeT P el = some x.sz) (hby : bytesT P el = some bytes) (z : List C) (hz : zeroT P el = some z) (hzl : z.length = x.sz)
    (hb1 : x.rows.length + rows2.length ≤ 4294967296) (hb2 : bytes ≤ 16384) :
    ∃ v' w' g', (Builtin.append_ #[t, t] ty #[v, u]).run P w = .ok v' w' ∧ Rel n0 N (σ.apd e cons ⟨dp, x.sz, x.rows ++ rows2, gn, true⟩) g' a w' ∧ v' = g'.ψ e gn ∧ g'.A0 = g.A0 ∧ g'.R0 = g.R0 ∧ Bk n0 w w' := by
  obtain ⟨ao, c2, news, fps2, rfl, l2, nl2, r2, o2, nd2, m2, src2⟩ := hs.ex
  have m2' : ∀ b ∈ fps2, ∃ p ∈ cons, b ∈ g.φ p.1 := fun b hb => by obtain ⟨p, h1, h2⟩ := m2 b hb; exact ⟨p, h1, List.mem_of_mem_tail h2⟩
  have hcO : ∀ p ∈ cons, σ.On p.1 := fun p hp => ⟨p.2, (hs.cons p hp).1, (hs.cons p hp).2.1⟩
  have hval : (v = .slice none 0 0 ∧ x.rows.length = 0 ∧ vs = []) ∨ ∃ b cap cells cty, v = .slice (some ⟨b, 0, none⟩) x.rows.length cap ∧ x.rows.length ≤ cap ∧ cap ≤ maxI ∧ w.heap[b]? = some (.cells cells cty (0, 0)) ∧ cells.size = cap * x.sz ∧ cells.toList.take (x.rows.length * x.sz) = vs ∧ top = some b := by
    rcases ht.val with ⟨h1, h2, h3, _⟩ | h
    · exact Or.inl ⟨h1, by rw [h2]; rfl, h3⟩
    · exact Or.inr h
  obtain ⟨v', w', hrun, hap⟩ := append_run (P := P) w t ty el x.sz bytes hty hn hby z hz hzl v x.rows.length top vs hval ao rows2.length c2 news nl2 src2 r2.one hb1 hb2
  have hbel : ∀ nb : Nat, (some nb = top ∨ w.heap.size ≤ nb) → (∀ k, k < w.heap.size → k ≠ nb → w'.heap[k]? = w.heap[k]?) → Bk n0 w w' := fun nb h1 h2 => ⟨hap.os, hap.tape, hap.output, hap.size, fun k hk => h2 k (hn0 k hk) fun hkn => by
    subst hkn
    rcases h1 with hh | hh
    · exact (ht.bx k (Or.inl hh)).2.1.2.2 hk
    · have := hn0 k hk; omega⟩
  rcases hap.res with ⟨h1, h2, h3, rfl⟩ | ⟨b, cap, cells, ty', h1, h2, h3, h4, h5, h6, h7, h8⟩
  · have hx : x.rows = [] := List.eq_nil_of_length_eq_zero (by omega)
    have hy : rows2 = [] := List.eq_nil_of_length_eq_zero (by omega)
    refine ⟨v', w', _, hrun, hR.apd_fin (v' := v') (fp' := []) ht rfl (fun n hn => ⟨Nat.le_of_lt (hst n hn), fun e => by have := hst n hn; simp only at e; omega⟩) hs.cons m2' w'.heap.size (Or.inr (Nat.le_refl _)) (fun _ _ _ => rfl) (Nat.le_refl _) hn0 List.nodup_nil (by simp) (by simp) fun A' _ => ?_, by simp [upd_same], rfl, rfl, Bk.refl _ _⟩
    exact ⟨none, 0, by rw [h1, hx, hy]; rfl, by simp [hx, hy], by omega, Or.inl ⟨rfl, rfl, by simp [hx, hy], rfl⟩⟩
  · have hnodup : (b :: (if dp = true then fps ++ fps2 else [])).Nodup := by
      refine List.nodup_cons.2 ⟨fun hm => ?_, ?_⟩
      · split at hm
        · rcases List.mem_append.1 hm with hm | hm
          · rcases h7 with h7 | h7
            · exact ht.topfp b h7 hm
            · have := (ht.bx b (Or.inr hm)).2.2.1; omega
          · obtain ⟨p, hcc, hm2⟩ := m2' b hm
            obtain ⟨he2, ho2, hne⟩ := hs.cons p hcc
            rcases h7 with h7 | h7
            · exact (ht.bx b (Or.inl h7)).2.2.2 p.1 hne (hcO p hcc) hm2
            · have := (hR.evs p.1 p.2 he2 ho2).lt b hm2; omega
        · simp at hm
      · split
        · refine List.nodup_append.2 ⟨ht.nodup, nd2, fun c hc d hd hcd => ?_⟩
          subst hcd
          obtain ⟨p, hcc, hm2⟩ := m2' c hd
          obtain ⟨he2, ho2, hne⟩ := hs.cons p hcc
          exact (ht.bx c (Or.inr hc)).2.2.2 p.1 hne (hcO p hcc) hm2
        · exact List.nodup_nil
    have hfix' : ∀ c, Fix σ g w c → w'.heap[c]? = w.heap[c]? := fun c hf => h8 c hf.2.2.1 fun hcb => by
      subst hcb
      rcases h7 with h7 | h7
      · exact ht.fix c hf h7
      · have := hf.2.2.1; omega
    have hcell : ∀ j u, (vs ++ news)[j]? = some u → cells[0 + j]? = some u := fun j u hu => by
      rw [← h6, List.getElem?_take] at hu
      split at hu
      · simpa using hu
      · cases hu
    have hlens : lens x.sz (x.rows ++ rows2) := fun r hr => by
      rcases List.mem_append.1 hr with hr | hr
      · exact ht.lens r hr
      · exact l2 r hr
    refine ⟨v', w', _, hrun, hR.apd_fin (v' := v') (fp' := b :: (if dp = true then fps ++ fps2 else [])) ht rfl (fun n hn => ⟨Nat.le_of_lt (hst n hn), fun e => by have := hst n hn; simp only at e; omega⟩) hs.cons m2' b h7 h8 hap.size hn0 hnodup (fun c hc => ?_) (fun c hc => by simpa using hc.symm) fun A' hA => ?_, by simp [upd_same], rfl, rfl, hbel b h7 h8⟩
    · rcases List.mem_cons.1 hc with hc | hc
      · exact Or.inl hc
      · split at hc
        · exact Or.inr (List.mem_append.1 hc)
        · simp at hc
    · refine ⟨_, cap, by rw [h1]; simp, by simpa using h2, h3, Or.inr ⟨b, cells, ty', _, rfl, rfl, h4, h5, ?_⟩⟩
      by_cases hd : dp = true
      · obtain ⟨d1, d2⟩ := hdp hd
        simp only [hd, if_true]
        have ha : OwnAll w' (x.rows ++ rows2).flatten (vs ++ news) (fps ++ fps2) := by
          rw [List.flatten_append]
          refine ((ht.own d1).append (o2 d2)).keep fun c hc => ?_
          have hin : c ∈ (if dp = true then fps ++ fps2 else []) := by rw [if_pos hd]; exact hc
          have hcb : c ≠ b := fun hcb => (List.nodup_cons.1 hnodup).1 (hcb ▸ hin)
          rcases List.mem_append.1 hc with hc | hc
          · exact h8 c (ht.bx c (Or.inr hc)).2.2.1 hcb
          · obtain ⟨p, hcc, hm2⟩ := m2' c hc
            exact h8 c ((hR.evs p.1 p.2 (hs.cons p hcc).1 (hs.cons p hcc).2.1).lt c hm2) hcb
        exact OwnRows.of_vals hlens ha hcell
      · simp only [hd, Bool.false_eq_true, if_false]
        refine ⟨by first | rfl | trivial, ?_⟩
        have ha : RepAll w' A' (x.rows ++ rows2).flatten (vs ++ news) := by
          rw [List.flatten_append]
          exact (RepAll.keep hfix' hA _ _ ht.rep).append (RepAll.keep hfix' hA _ _ r2)
        refine RepRows.of_vals hlens ha fun j u hu => ?_
        have := hcell j u hu
        simpa [World.cell?, h4] using this
end Go.Proofs.Ytgfjbbbkploonaa
