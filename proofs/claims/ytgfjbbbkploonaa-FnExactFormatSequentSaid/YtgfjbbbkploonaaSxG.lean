/-
  The walk over plain data is sound: boxes.
  Conditions: none.
-/
import Derived.Test.YtgfjbbbkploonaaSxF
namespace Go.Proofs.Ytgfjbbbkploonaa
set_option linter.unusedSimpArgs false
set_option linter.unusedVariables false
open Go.RowKit
variable {P : Program}

theorem Rel.lt {n0 : Nat → Prop} {N : Nat} {σ : St} {g : Gh} {a : Act} {w : World} (h : Rel n0 N σ g a w) {b : Nat} (hb : σ.bx b ≠ none) : g.β b < w.heap.size := by
  obtain ⟨cs, hc⟩ := Option.ne_none_iff_exists'.1 hb
  obtain ⟨vs, ty, k, _⟩ := h.boxes b cs hc
  exact (Array.getElem?_eq_some_iff.1 k).1
theorem EvR.lt {w : World} {A : Nat → Prop} {x : Ev} {v : Value} {fp : List Nat} (h : EvR w A x v fp) : ∀ b ∈ fp, b < w.heap.size := by
  intro b hb
  obtain ⟨ao, cap, e1, e2, e3, e4⟩ := h
  rcases e4 with ⟨_, _, _, rfl⟩ | ⟨b', cells, ty, fps, _, rfl, e7, e8, e9⟩
  · simp at hb
  · rcases List.mem_cons.1 hb with rfl | hb
    · exact (Array.getElem?_eq_some_iff.1 e7).1
    · split at e9
      · exact OwnRows.lt cells 0 x.sz x.rows fps e9 b hb
      · rw [e9.1] at hb; simp at hb

/-- A new box. -/
theorem Rel.newbox {n0 : Nat → Prop} {N : Nat} {σ : St} {g : Gh} {a : Act} {w : World} (h : Rel n0 N σ g a w) (hn : LtK n0 w) {d : Nat} (hd : σ.bx d = none) {cs : List C} {vs : List Value} (hc : CRs σ g w cs vs) (ty : TypeId) :
    Rel n0 N { σ with bx := upd σ.bx d (some cs) } { g with β := upd g.β d w.heap.size } a (w.alloc (.cells ⟨vs⟩ ty)) := by
  have hb : ∀ b, σ.bx b ≠ none → b ≠ d := fun b hb e => hb (e ▸ hd)
  have m : Mv σ { σ with bx := upd σ.bx d (some cs) } g { g with β := upd g.β d w.heap.size } w (w.alloc (.cells ⟨vs⟩ ty)) := by
    refine ⟨fun b hf => Below.heap_alloc _ _ _ hf.2.2.1, fun b hf => ⟨fun k hk => ?_, hf.2.1, ?_, hf.2.2.2⟩, fun b hbb => ?_, fun e _ he => ⟨he, rfl⟩⟩
    · simp only [upd] at hk ⊢
      by_cases hkd : k = d
      · rw [if_pos hkd]; have := hf.2.2.1; omega
      · rw [if_neg hkd] at hk ⊢; exact hf.1 k hk
    · have := hf.2.2.1; simp; omega
    · exact ⟨upd_ne _ _ (hb b hbb), by show upd σ.bx d (some cs) b ≠ none; rw [upd_ne _ _ (hb b hbb)]; exact hbb⟩
  refine ⟨h.defers, h.size, h.anew, fun i => m.vr (h.slots i), fun b cs' hbb => ?_, fun b hbb => ?_, fun b b' h1 h2 h3 => ?_, fun e x he ho => m.evr (h.evs e x he ho) fun b hb => Below.heap_alloc _ _ _ ((h.evs e x he ho).lt b hb), fun e x he ho => ⟨m.rep (h.offs e x he ho).1, (h.offs e x he ho).2⟩, h.slc, h.ebase, h.etop, h.nodup, h.apart, fun e k he hk => ?_⟩
  · by_cases hbd : b = d
    · subst hbd
      simp only [upd_same] at hbb ⊢
      cases hbb
      exact ⟨⟨vs⟩, ty, heap_alloc_new _ _, m.crs hc⟩
    · simp only [upd_ne _ _ hbd] at hbb ⊢
      obtain ⟨vs', ty', k1, k2⟩ := h.boxes b cs' hbb
      exact ⟨vs', ty', by rw [Below.heap_alloc _ _ _ (h.lt (by rw [hbb]; simp))]; exact k1, m.crs k2⟩
  · by_cases hbd : b = d
    · subst hbd; simp only [upd_same]; exact hn.new (Nat.le_refl _)
    · simp only [upd_ne _ _ hbd] at hbb ⊢; exact h.base b hbb
  · by_cases e1 : b = d <;> by_cases e2 : b' = d
    · rw [e1, e2]
    · subst e1
      simp only [upd_same, upd_ne _ _ e2] at h2 h3
      have := h.lt h2; omega
    · subst e2
      simp only [upd_same, upd_ne _ _ e1] at h1 h3
      have := h.lt h1; omega
    · simp only [upd_ne _ _ e1, upd_ne _ _ e2] at h1 h2 h3
      exact h.inj b b' h1 h2 h3
  · by_cases hkd : k = d
    · subst hkd
      simp only [upd_same]
      intro hm
      obtain ⟨x, hx, ho⟩ := he
      have := (h.evs e x hx ho).lt _ hm
      omega
    · simp only [upd_ne _ _ hkd] at hk ⊢; exact h.ebx e k he hk

theorem Bk.of_alloc {n0 : Nat → Prop} {w : World} (hn : LtK n0 w) (o : Obj) : Bk n0 w (w.alloc o) := ⟨rfl, rfl, rfl, by simp, fun k hk => Below.heap_alloc _ _ _ (hn k hk)⟩

theorem StepSem.newbox {o : Oper} {σ : St} {d : Nat} {cs : List C} (hd : o.dst = some d) (hb : σ.bx d = none)
    (h : ∀ n0 N g a w, Rel n0 N σ g a w → ∃ vs ty, (execOp a.eval o).run P w = .ok (.value (.pointer (some ⟨w.heap.size, 0, none⟩))) (w.alloc (.cells ⟨vs⟩ ty)) ∧ CRs σ g w cs vs) :
    StepSem P o σ { sl := upd σ.sl d (.one (.bx d 0)), bx := upd σ.bx d (some cs), ev := σ.ev } := by
  intro n0 N g a w hR hn hdN
  obtain ⟨vs, ty, h1, h2⟩ := h n0 N g a w hR
  unfold Oper.wp
  rw [h1]
  refine ⟨{ g with β := upd g.β d w.heap.size }, ?_, Bk.of_alloc hn _, rfl, rfl⟩
  have := (hR.newbox hn hb h2 ty).put (some d) (x := .one (.bx d 0)) (v := .pointer (some ⟨w.heap.size, 0, none⟩)) ⟨by simp [upd], by simp [upd]⟩ (fun i hi => by cases hi; exact hdN d hd)
  rw [hd]
  exact this

theorem zeroT_eq {t : TypeId} {z : List C} (h : zeroT P t = some z) : ∃ i zv, P.info? t = some i ∧ i.zero = some zv ∧ ∀ σ g w, CRs σ g w z zv.cells.toList := by
  unfold zeroT at h
  cases hi : P.info? t with
  | none => rw [hi] at h; simp at h
  | some i =>
    rw [hi] at h
    simp only [Option.bind_some] at h
    cases hz : i.zero with
    | none => rw [hz] at h; simp at h
    | some zv =>
      rw [hz] at h
      simp only [Option.map_some, Option.some.injEq] at h
      subst h
      exact ⟨i, zv, rfl, hz, fun σ g w => cells_cr σ g w (fun i => (nlsT P 6 t).getD i 0) zv.cells.toList 0⟩

theorem sem_alloc {o : Oper} {σ : St} {t : TypeId} {d : Nat} {z : List C} (ho : o.op = .alloc t) (hd : o.dst = some d) (hb : σ.bx d = none) (hz : zeroT P t = some z) :
    StepSem P o σ { sl := upd σ.sl d (.one (.bx d 0)), bx := upd σ.bx d (some z), ev := σ.ev } :=
  StepSem.newbox hd hb fun n0 N g a w hR => by
    obtain ⟨i, zv, h1, h2, h3⟩ := zeroT_eq hz
    refine ⟨zv.cells.toList, t, ?_, h3 σ g w⟩
    unfold execOp
    simp only [ho]
    simp [Instr.alloc, zeroValue, typeInfo, h1, h2, newVar, newRow]

theorem RepV.one {w : World} {A : Nat → Prop} {t : T} {v : Value} (h : RepV w A t v) : v.oneCell' = true ∧ v.cells = #[v] := by
  cases t <;> unfold RepV at h
  · rw [h.1]; exact ⟨rfl, rfl⟩
  · rw [h]; exact ⟨rfl, rfl⟩
  · rw [h.1]; exact ⟨rfl, rfl⟩
  · obtain ⟨_, _, rfl, _⟩ := h; exact ⟨rfl, rfl⟩
  · obtain ⟨_, _, rfl, _⟩ := h; exact ⟨rfl, rfl⟩
  · obtain ⟨_, rfl, _⟩ := h; exact ⟨rfl, rfl⟩
  · obtain ⟨_, _, _, rfl, _⟩ := h; exact ⟨rfl, rfl⟩
theorem Rel.one {n0 : Nat → Prop} {N : Nat} {σ : St} {g : Gh} {a : Act} {w : World} (h : Rel n0 N σ g a w) {c : C} {v : Value} (hc : CR σ g w c v) (hg : c.good = true) : v.oneCell' = true ∧ v.cells = #[v] := by
  cases c with
  | t x => exact RepV.one hc
  | nl s => rw [show v = .slice none 0 0 from hc]; exact ⟨rfl, rfl⟩
  | ow e s => obtain ⟨ao, n, c, hs⟩ := h.slc e s; rw [hc.1, hs]; exact ⟨rfl, rfl⟩
  | bx b o => rw [hc.1]; exact ⟨rfl, rfl⟩
  | el cs o => obtain ⟨b, q, rfl, _⟩ := hc; exact ⟨rfl, rfl⟩
  | eo e s z i o => obtain ⟨b, q, _, _, rfl, _⟩ := hc; exact ⟨rfl, rfl⟩
  | fn f caps => rw [hc.1]; exact ⟨rfl, rfl⟩
  | cv u =>
    rw [show v = u from hc]
    have hg' : goodV u = true := hg
    unfold goodV at hg'
    split at hg' <;> first | exact ⟨rfl, rfl⟩ | cases hg'
  | any => cases hg
theorem Rel.cells {n0 : Nat → Prop} {N : Nat} {σ : St} {g : Gh} {a : Act} {w : World} (h : Rel n0 N σ g a w) {x : V} {v : Value} (hv : VR σ g w x v) (hx : ∀ xs, x ≠ .tup xs) (hg : x.cells.all C.good = true) : CRs σ g w x.cells v.cells.toList ∧ ∀ u ∈ v.cells.toList, u.oneCell' = true := by
  cases x with
  | one c =>
    have h1 := h.one hv (by simpa [V.cells] using hg)
    rw [h1.2]
    exact ⟨⟨v, [], rfl, hv, rfl⟩, by simpa using h1.1⟩
  | agg cs =>
    obtain ⟨vs, rfl, h2⟩ := hv
    refine ⟨h2, fun u hu => ?_⟩
    obtain ⟨j, hj, rfl⟩ := List.getElem_of_mem hu
    have hj' : j < cs.length := by have := h2.len; simp [Value.cells] at hj; omega
    obtain ⟨u', k1, k2⟩ := h2.at j cs[j] (by simp [hj'])
    have k1' : (Value.agg ⟨vs⟩).cells.toList[j]? = some u' := k1
    rw [List.getElem?_eq_getElem hj, Option.some.injEq] at k1'
    rw [k1']
    exact (h.one k2 (by simp only [V.cells, List.all_eq_true] at hg; exact hg _ (List.getElem_mem _))).1
  | tup xs => exact absurd rfl (hx xs)

theorem sem_box {o : Oper} {σ : St} {t : TypeId} {x : Operand} {d : Nat} (ho : o.op = .box t x) (hd : o.dst = some d) (hb : σ.bx d = none) (hx : ∀ xs, σ.get P t x ≠ .tup xs) (hg : (σ.get P t x).cells.all C.good = true) :
    StepSem P o σ { sl := upd σ.sl d (.one (.bx d 0)), bx := upd σ.bx d (some (σ.get P t x).cells), ev := σ.ev } :=
  StepSem.newbox hd hb fun n0 N g a w hR => by
    refine ⟨(a.eval x).cells.toList, t, ?_, (hR.cells (hR.get P t x) hx hg).1⟩
    unfold execOp
    simp only [ho]
    simp [Instr.box, newVar, newRow]

theorem setR_len {α : Type} (cs : List α) (o : Nat) (vs : List α) (h : o + vs.length ≤ cs.length) : (setR cs o vs).length = cs.length := by
  simp [setR]; omega
theorem CRs.setR {σ : St} {g : Gh} {w : World} {cs ds : List C} {vs us : List Value} (o : Nat) (h : CRs σ g w cs vs) (k : CRs σ g w ds us) : CRs σ g w (setR cs o ds) (vs.take o ++ us ++ vs.drop (o + us.length)) := by
  have := ((h.take o).append k).append (h.drop (o + us.length))
  rw [k.len] at this ⊢
  exact this

theorem sem_store {o : Oper} {σ : St} {t : TypeId} {x y : Operand} {b p n : Nat} {cs : List C} (ho : o.op = .store t x y) (hx : σ.get P 0 x = .one (.bx b p)) (hn : sizeT P t = some n) (hb : σ.bx b = some cs)
    (hl : (σ.get P t y).cells.length = n) (hle : p + n ≤ cs.length) (hg : (σ.get P t y).cells.all C.good = true) (hy : ∀ xs, σ.get P t y ≠ .tup xs) :
    StepSem P o σ ({ σ with bx := upd σ.bx b (some (setR cs p (σ.get P t y).cells)) } |>.put o.dst (.one .any)) := by
  intro n0 N g a w hR hn0 hdN
  have hv := hR.get P 0 x
  rw [hx] at hv
  obtain ⟨v1, v2⟩ := hv
  obtain ⟨c1, c2⟩ := hR.cells (hR.get P t y) hy hg
  obtain ⟨vs, ty, k1, k2⟩ := hR.boxes b cs hb
  have hlen : (a.eval y).cells.toList.length = n := by rw [c1.len]; exact hl
  have hsz : vs.toList.length = cs.length := k2.len
  have hrun : (execOp a.eval o).run P w = .ok .skip (w.setRow (g.β b) (vs.toList.take p ++ (a.eval y).cells.toList ++ vs.toList.drop (p + (a.eval y).cells.toList.length)).toArray) := by
    have hst := run_storeCells_at P (g.β b) p ty (a.eval y).cells.toList 0 vs w k1 (by rw [hlen]; simp at hsz; omega) c2
    simp only [Nat.add_zero] at hst
    have hcs : (a.eval y).cells.size = n := by simpa using hlen
    unfold execOp
    simp only [ho]
    simp only [Instr.storeAt, v1, Instr.sureAddr, Sem.run_bind, Sem.run_pure, Result.andThen, storeVar, run_sizeOf hn, hcs, ne_eq, not_true, if_false, hst]
  unfold Oper.wp
  rw [hrun]
  have hb' : ∀ k, k ≠ g.β b → (w.setRow (g.β b) (vs.toList.take p ++ (a.eval y).cells.toList ++ vs.toList.drop (p + (a.eval y).cells.toList.length)).toArray).heap[k]? = w.heap[k]? := fun k hk => setRow_other w _ k _ hk
  have hnew := setRow_heap w (g.β b) vs (vs.toList.take p ++ (a.eval y).cells.toList ++ vs.toList.drop (p + (a.eval y).cells.toList.length)).toArray ty (0, 0) k1
  have hsize : (w.setRow (g.β b) (vs.toList.take p ++ (a.eval y).cells.toList ++ vs.toList.drop (p + (a.eval y).cells.toList.length)).toArray).heap.size = w.heap.size := setRow_size _ _ _
  generalize hw' : w.setRow (g.β b) (vs.toList.take p ++ (a.eval y).cells.toList ++ vs.toList.drop (p + (a.eval y).cells.toList.length)).toArray = w' at hb' hnew hsize ⊢
  have hbel : Bk n0 w w' := by
    subst hw'
    exact ⟨rfl, rfl, rfl, Nat.le_of_eq hsize.symm, fun k hk => hb' k (fun e => hR.base b v2 (e ▸ hk))⟩
  have hne : ∀ k, σ.bx k ≠ none → (upd σ.bx b (some (setR cs p (σ.get P t y).cells))) k ≠ none := fun k hk => by
    unfold upd; split <;> simp_all
  have hne' : ∀ k, (upd σ.bx b (some (setR cs p (σ.get P t y).cells))) k ≠ none → σ.bx k ≠ none := fun k hk => by
    unfold upd at hk; split at hk <;> simp_all
  have m : Mv σ { σ with bx := upd σ.bx b (some (setR cs p (σ.get P t y).cells)) } g g w w' :=
    ⟨fun k hf => hb' k (fun e => hf.1 b v2 e.symm), fun k hf => ⟨fun j hj => hf.1 j (hne' j hj), hf.2.1, by rw [hsize]; exact hf.2.2.1, hf.2.2.2⟩, fun k hk => ⟨rfl, hne k hk⟩, fun e _ he => ⟨he, rfl⟩⟩
  have hR' : Rel n0 N { σ with bx := upd σ.bx b (some (setR cs p (σ.get P t y).cells)) } g a w' := by
    refine ⟨hR.defers, hR.size, hR.anew, fun i => m.vr (hR.slots i), fun k ds hk => ?_, fun k hk => hR.base k (hne' k hk), fun k k' h1 h2 => hR.inj k k' (hne' k h1) (hne' k' h2), fun e z he ho => m.evr (hR.evs e z he ho) fun q hq => hb' q (fun e' => hR.ebx e b ⟨z, he, ho⟩ v2 (e' ▸ hq)), fun e z he ho => ⟨m.rep (hR.offs e z he ho).1, (hR.offs e z he ho).2⟩, hR.slc, hR.ebase, hR.etop, hR.nodup, hR.apart, fun e k he hk => hR.ebx e k he (hne' k hk)⟩
    by_cases hkb : k = b
    · subst hkb
      simp only [upd_same] at hk
      cases hk
      exact ⟨_, ty, hnew, by simpa using m.crs (k2.setR p c1)⟩
    · simp only [upd_ne _ _ hkb] at hk
      obtain ⟨vs', ty', j1, j2⟩ := hR.boxes k ds hk
      exact ⟨vs', ty', by rw [hb' _ (fun e => hkb (hR.inj k b (by rw [hk]; simp) v2 e))]; exact j1, m.crs j2⟩
  exact ⟨g, hR'.put o.dst (x := .one .any) trivial hdN, hbel, rfl, rfl⟩
end Go.Proofs.Ytgfjbbbkploonaa
