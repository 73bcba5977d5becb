/-
  The walk over plain data: append, literal slices, made slices, parts of slices and strings, by rules.
  Conditions: none.
-/
import Derived.Test.YtgfjbbbkploonaaSxO
namespace Go.Proofs.Ytgfjbbbkploonaa
set_option linter.unusedSimpArgs false
set_option linter.unusedVariables false
open Go.RowKit
variable {P : Program}

/-- What the types say of an append's elements. -/
def apT (P : Program) (t : TypeId) (sz : Nat) : Prop := ∃ el bytes z, elT P t = some el ∧ sizeT P el = some sz ∧ bytesT P el = some bytes ∧ bytes ≤ 16384 ∧ zeroT P el = some z ∧ z.length = sz
theorem elT_under {t el : TypeId} (h : elT P t = some el) : P.underlying t = some (.slice el) := by
  unfold elT at h
  split at h
  · rename_i e hu; cases h; exact hu
  · cases h
theorem apT_mk {t el : TypeId} {sz bytes : Nat} {z : List C} (h1 : elT P t = some el) (h2 : sizeT P el = some sz) (h3 : bytesT P el = some bytes) (h4 : bytes ≤ 16384) (h5 : zeroT P el = some z) (h6 : z.length = sz) : apT P t sz := ⟨el, bytes, z, h1, h2, h3, h4, h5, h6⟩

theorem sem_append {o : Oper} {σ : St} {s y : Operand} {t : TypeId} {e gn : Nat} {x : Ev} {cons : List (Nat × Ev)} {rows2 : List (List T)} {dp dp2 : Bool} (ho : o.op = .call ⟨.builtin .append, #[s, y], #[t, t]⟩)
    (H : ∀ n0 N g a w, Rel n0 N σ g a w → (∃ vs fps top, Tgt n0 σ g w e x (a.eval s) vs fps top) ∧ Src σ g w e cons x.sz rows2 dp2 (a.eval y)) (hst : ∀ n, σ.has e n → n < gn) (hdp : dp = true → x.deep = true ∧ dp2 = true) (hT : apT P t x.sz) (hb : x.rows.length + rows2.length ≤ 4294967296) :
    StepSem P o σ ((σ.apd e cons ⟨dp, x.sz, x.rows ++ rows2, gn, true⟩).put o.dst (.one (.ow e gn))) := by
  intro n0 N g a w hR hn hdN
  obtain ⟨⟨vs, fps, top, hT1⟩, hS⟩ := H n0 N g a w hR
  obtain ⟨el, bytes, z, t1, t2, t3, t4, t5, t6⟩ := hT
  obtain ⟨v', w', g', hrun, hR', hv', hA, hA2, hbel⟩ := hR.append hn hT1 hst hS hdp t o.type el bytes (elT_under t1) t2 t3 z t5 t6 hb t4
  have hrun' : (execOp a.eval o).run P w = .ok (.value v') w' := by
    unfold execOp
    simp only [ho]
    simp [resolve, invoke, builtin, hrun]
  unfold Oper.wp
  rw [hrun']
  refine ⟨g', hR'.put o.dst (x := .one (.ow e gn)) ⟨hv', ⟨dp, x.sz, x.rows ++ rows2, gn, true⟩, by simp [St.apd, upd_same], Nat.le_refl _⟩ hdN, hbel, hA, hA2⟩

/-- What stages there have been. -/
theorem has_lt {σ : St} {e : Nat} {x : Ev} (h : σ.ev e = some x) : ∀ n, σ.has e n → n < x.gen + 1 := fun n hn => by
  obtain ⟨y, hy, hl⟩ := hn
  rw [h, Option.some.injEq] at hy
  subst hy
  omega
theorem has_none {σ : St} {e : Nat} (h : σ.ev e = none) : ∀ n, σ.has e n → n < 0 := fun n hn => by
  obtain ⟨y, hy, _⟩ := hn
  rw [h] at hy; cases hy

section
variable {ks : List Fr} {Q : Exit → St → Prop} {σ : St} {ops : Array Oper} {os : List Oper} {ty : TypeId} {ps : String} {af : Array Edge} {d : Nat} {s y : Operand} {t : TypeId}
/-- An owned slice, and one that goes into it. -/
theorem s_apOO {e e2 gn gn2 sz sz2 : Nat} {dp dp2 : Bool} {rows rows2 : List (List T)} (h : σ.get P t s = .one (.ow e gn) ∧ σ.get P t y = .one (.ow e2 gn2) ∧ σ.ev e = some ⟨dp, sz, rows, gn, true⟩ ∧ σ.ev e2 = some ⟨dp2, sz2, rows2, gn2, true⟩ ∧ e2 ≠ e ∧ sz2 = sz) (hT : apT P t sz) (hb : rows.length + rows2.length ≤ 4294967296) : StepSem P ⟨some d, .call ⟨.builtin .append, #[s, y], #[t, t]⟩, ty, ps, af, none⟩ σ ((σ.apd e [(e2, ⟨dp2, sz2, rows2, gn2, true⟩)] ⟨dp && dp2, sz, rows ++ rows2, gn + 1, true⟩).put (some d) (.one (.ow e (gn + 1)))) := by
  obtain ⟨h1, h2, h3, h4, h5, rfl⟩ := h
  refine sem_append (o := ⟨some d, _, ty, ps, af, none⟩) (x := ⟨dp, sz2, rows, gn, true⟩) (gn := gn + 1) (dp := dp && dp2) (dp2 := dp2) rfl (fun n0 N g a w hR => ?_) (has_lt h3) (fun h => by simpa using h) hT hb
  have v1 := hR.get P t s
  have v2 := hR.get P t y
  rw [h1] at v1
  rw [h2] at v2
  rw [v1.1, v2.1]
  obtain ⟨vs, fps, top, hh⟩ := hR.tgt h3 rfl
  exact ⟨⟨vs, fps, top, hh⟩, Src.own hR h4 rfl h5⟩
theorem apOO {e e2 gn gn2 sz sz2 : Nat} {dp dp2 : Bool} {rows rows2 : List (List T)} (h : σ.get P t s = .one (.ow e gn) ∧ σ.get P t y = .one (.ow e2 gn2) ∧ σ.ev e = some ⟨dp, sz, rows, gn, true⟩ ∧ σ.ev e2 = some ⟨dp2, sz2, rows2, gn2, true⟩ ∧ e2 ≠ e ∧ sz2 = sz) (hT : apT P t sz) (hb : rows.length + rows2.length ≤ 4294967296)
    (k : exo P ops os ks Q ((σ.apd e [(e2, ⟨dp2, sz2, rows2, gn2, true⟩)] ⟨dp && dp2, sz, rows ++ rows2, gn + 1, true⟩).put (some d) (.one (.ow e (gn + 1))))) : exo P ops (⟨some d, .call ⟨.builtin .append, #[s, y], #[t, t]⟩, ty, ps, af, none⟩ :: os) ks Q σ :=
  exo_sem rfl rfl (s_apOO h hT hb) k
/-- An owned slice, and the elements of one that is only read. -/
theorem s_apOT {e gn sz : Nat} {dp : Bool} {rows rows2 : List (List T)} (dp2 : Bool) (h : σ.get P t s = .one (.ow e gn) ∧ σ.get P t y = .one (.t (.sl sz rows2)) ∧ σ.ev e = some ⟨dp, sz, rows, gn, true⟩) (hf : dp2 = true → ∀ c ∈ rows2.flatten, c.flat = true) (hT : apT P t sz) (hb : rows.length + rows2.length ≤ 4294967296) : StepSem P ⟨some d, .call ⟨.builtin .append, #[s, y], #[t, t]⟩, ty, ps, af, none⟩ σ ((σ.apd e [] ⟨dp && dp2, sz, rows ++ rows2, gn + 1, true⟩).put (some d) (.one (.ow e (gn + 1)))) := by
  obtain ⟨h1, h2, h3⟩ := h
  refine sem_append (o := ⟨some d, _, ty, ps, af, none⟩) (x := ⟨dp, sz, rows, gn, true⟩) (gn := gn + 1) (dp := dp && dp2) (dp2 := dp2) rfl (fun n0 N g a w hR => ?_) (has_lt h3) (fun h => by simpa using h) hT hb
  have v1 := hR.get P t s
  have v2 := hR.get P t y
  rw [h1] at v1
  rw [h2] at v2
  rw [v1.1]
  obtain ⟨vs, fps, top, hh⟩ := hR.tgt h3 rfl
  exact ⟨⟨vs, fps, top, hh⟩, Src.rd hR e v2 hf⟩
theorem apOT {e gn sz : Nat} {dp : Bool} {rows rows2 : List (List T)} (dp2 : Bool) (h : σ.get P t s = .one (.ow e gn) ∧ σ.get P t y = .one (.t (.sl sz rows2)) ∧ σ.ev e = some ⟨dp, sz, rows, gn, true⟩) (hf : dp2 = true → ∀ c ∈ rows2.flatten, c.flat = true) (hT : apT P t sz) (hb : rows.length + rows2.length ≤ 4294967296)
    (k : exo P ops os ks Q ((σ.apd e [] ⟨dp && dp2, sz, rows ++ rows2, gn + 1, true⟩).put (some d) (.one (.ow e (gn + 1))))) : exo P ops (⟨some d, .call ⟨.builtin .append, #[s, y], #[t, t]⟩, ty, ps, af, none⟩ :: os) ks Q σ :=
  exo_sem rfl rfl (s_apOT dp2 h hf hT hb) k
/-- The nil slice, and one that goes into it. -/
theorem s_apNO {z e2 sz gn2 : Nat} {dp2 : Bool} {rows2 : List (List T)} (h : σ.get P t s = .one (.nl z) ∧ σ.get P t y = .one (.ow e2 gn2) ∧ σ.ev (d * 32) = none ∧ σ.ev e2 = some ⟨dp2, sz, rows2, gn2, true⟩ ∧ e2 ≠ d * 32) (hT : apT P t sz) (hb : rows2.length ≤ 4294967296) : StepSem P ⟨some d, .call ⟨.builtin .append, #[s, y], #[t, t]⟩, ty, ps, af, none⟩ σ ((σ.apd (d * 32) [(e2, ⟨dp2, sz, rows2, gn2, true⟩)] ⟨dp2, sz, rows2, 0, true⟩).put (some d) (.one (.ow (d * 32) 0))) := by
  obtain ⟨h1, h2, h3, h4, h5⟩ := h
  refine sem_append (o := ⟨some d, _, ty, ps, af, none⟩) (x := ⟨true, sz, [], 0, true⟩) (gn := 0) (rows2 := rows2) (dp := dp2) (dp2 := dp2) rfl (fun n0 N g a w hR => ?_) (has_none h3) (fun h => ⟨rfl, h⟩) hT (by simpa using hb)
  have v1 := hR.get P t s
  have v2 := hR.get P t y
  rw [h1] at v1
  rw [h2] at v2
  rw [show a.eval s = .slice none 0 0 from v1, v2.1]
  exact ⟨⟨[], [], none, Tgt.nil _ _⟩, Src.own hR h4 rfl h5⟩
theorem apNO {z e2 sz gn2 : Nat} {dp2 : Bool} {rows2 : List (List T)} (h : σ.get P t s = .one (.nl z) ∧ σ.get P t y = .one (.ow e2 gn2) ∧ σ.ev (d * 32) = none ∧ σ.ev e2 = some ⟨dp2, sz, rows2, gn2, true⟩ ∧ e2 ≠ d * 32) (hT : apT P t sz) (hb : rows2.length ≤ 4294967296)
    (k : exo P ops os ks Q ((σ.apd (d * 32) [(e2, ⟨dp2, sz, rows2, gn2, true⟩)] ⟨dp2, sz, rows2, 0, true⟩).put (some d) (.one (.ow (d * 32) 0)))) : exo P ops (⟨some d, .call ⟨.builtin .append, #[s, y], #[t, t]⟩, ty, ps, af, none⟩ :: os) ks Q σ :=
  exo_sem rfl rfl (s_apNO h hT hb) k
theorem s_apNT {z sz : Nat} {rows2 : List (List T)} (dp2 : Bool) (h : σ.get P t s = .one (.nl z) ∧ σ.get P t y = .one (.t (.sl sz rows2)) ∧ σ.ev (d * 32) = none) (hf : dp2 = true → ∀ c ∈ rows2.flatten, c.flat = true) (hT : apT P t sz) (hb : rows2.length ≤ 4294967296) : StepSem P ⟨some d, .call ⟨.builtin .append, #[s, y], #[t, t]⟩, ty, ps, af, none⟩ σ ((σ.apd (d * 32) [] ⟨dp2, sz, rows2, 0, true⟩).put (some d) (.one (.ow (d * 32) 0))) := by
  obtain ⟨h1, h2, h3⟩ := h
  refine sem_append (o := ⟨some d, _, ty, ps, af, none⟩) (x := ⟨true, sz, [], 0, true⟩) (gn := 0) (rows2 := rows2) (dp := dp2) (dp2 := dp2) rfl (fun n0 N g a w hR => ?_) (has_none h3) (fun h => ⟨rfl, h⟩) hT (by simpa using hb)
  have v1 := hR.get P t s
  have v2 := hR.get P t y
  rw [h1] at v1
  rw [h2] at v2
  rw [show a.eval s = .slice none 0 0 from v1]
  exact ⟨⟨[], [], none, Tgt.nil _ _⟩, Src.rd hR _ v2 hf⟩
theorem apNT {z sz : Nat} {rows2 : List (List T)} (dp2 : Bool) (h : σ.get P t s = .one (.nl z) ∧ σ.get P t y = .one (.t (.sl sz rows2)) ∧ σ.ev (d * 32) = none) (hf : dp2 = true → ∀ c ∈ rows2.flatten, c.flat = true) (hT : apT P t sz) (hb : rows2.length ≤ 4294967296)
    (k : exo P ops os ks Q ((σ.apd (d * 32) [] ⟨dp2, sz, rows2, 0, true⟩).put (some d) (.one (.ow (d * 32) 0)))) : exo P ops (⟨some d, .call ⟨.builtin .append, #[s, y], #[t, t]⟩, ty, ps, af, none⟩ :: os) ks Q σ :=
  exo_sem rfl rfl (s_apNT dp2 h hf hT hb) k
end

/-- A new owned slice in one new block. -/
theorem Rel.newown {n0 : Nat → Prop} {N : Nat} {σ : St} {g : Gh} {a : Act} {w : World} (hR : Rel n0 N σ g a w) (hn0 : LtK n0 w) {e : Nat} (he : σ.ev e = none) {cons : List (Nat × Ev)} (hc : ∀ p ∈ cons, σ.ev p.1 = some p.2 ∧ p.2.on = true ∧ p.1 ≠ e)
    {sz : Nat} {rows : List (List T)} {vs : List Value} (hl : lens sz rows) {dp : Bool} (hr : dp = false → RepAll w (Fix σ g w) rows.flatten vs) {fps : List Nat} (ho : dp = true → OwnAll w rows.flatten vs fps) (hd : dp = false → fps = []) (hnd : fps.Nodup) (hm : ∀ b ∈ fps, ∃ p ∈ cons, b ∈ g.φ p.1)
    (cells : Array Value) (ty : TypeId) (cap : Nat) (hcs : cells.size = cap * sz) (hcap : rows.length ≤ cap) (hcm : cap ≤ maxI) (hpre : cells.toList.take (rows.length * sz) = vs) :
    ∃ g', Rel n0 N (σ.apd e cons ⟨dp, sz, rows, 0, true⟩) g' a (w.alloc (.cells cells ty)) ∧ .slice (some ⟨w.heap.size, 0, none⟩) rows.length cap = g'.ψ e 0 ∧ g'.A0 = g.A0 ∧ g'.R0 = g.R0 := by
  have ht : Tgt n0 σ g w e ⟨true, sz, [], 0, true⟩ (.slice none 0 0) [] [] none := Tgt.nil _ _
  have hlt : ∀ b ∈ fps, b < w.heap.size := fun b hb => by
    obtain ⟨p, hcc, hm2⟩ := hm b hb
    exact (hR.evs p.1 p.2 (hc p hcc).1 (hc p hcc).2.1).lt b hm2
  refine ⟨_, hR.apd_fin (v' := .slice (some ⟨w.heap.size, 0, none⟩) rows.length cap) (fp' := w.heap.size :: fps) ht rfl (fun n hn => absurd (has_none he n hn) (by omega)) hc hm w.heap.size (Or.inr (Nat.le_refl _)) (fun k hk _ => Below.heap_alloc w _ k hk) (by simp) hn0 (List.nodup_cons.2 ⟨fun h => by have := hlt _ h; omega, hnd⟩) (fun b hb => ?_) (fun b hb => by simpa using hb.symm) fun A' hA => ?_, by simp [upd_same], rfl, rfl⟩
  · rcases List.mem_cons.1 hb with hb | hb
    · exact Or.inl hb
    · exact Or.inr (Or.inr hb)
  · refine ⟨_, cap, rfl, hcap, hcm, Or.inr ⟨w.heap.size, cells, ty, fps, rfl, rfl, heap_alloc_new _ _, hcs, ?_⟩⟩
    have hcell : ∀ j u, vs[j]? = some u → cells[0 + j]? = some u := fun j u hu => by
      rw [← hpre, List.getElem?_take] at hu
      split at hu
      · simpa using hu
      · cases hu
    by_cases hdd : dp = true
    · simp only [hdd, if_true]
      exact OwnRows.of_vals hl ((ho hdd).keep fun b hb => Below.heap_alloc w _ b (hlt b hb)) hcell
    · simp only [hdd, Bool.false_eq_true, if_false]
      refine ⟨hd (by simpa using hdd), RepRows.of_vals hl (RepAll.keep (fun b hf => Below.heap_alloc w _ b hf.2.2.1) hA _ _ (hr (by simpa using hdd))) fun j u hu => ?_⟩
      have := hcell j u hu
      have hnew : (w.alloc (.cells cells ty)).heap[w.heap.size]? = some (.cells cells ty (0, 0)) := heap_alloc_new _ _
      simp only [World.cell?, hnew]
      simpa using this
end Go.Proofs.Ytgfjbbbkploonaa
