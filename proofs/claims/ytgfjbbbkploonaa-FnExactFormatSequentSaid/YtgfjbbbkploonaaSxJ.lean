/-
  The walk over plain data: a function's contract out of its walk; a call by its contract.
  Conditions: none.
-/
import Derived.Test.YtgfjbbbkploonaaSxI
namespace Go.Proofs.Ytgfjbbbkploonaa
set_option linter.unusedSimpArgs false
set_option linter.unusedVariables false
open Go.RowKit
variable {P : Program}

def D.toV : D → V
  | .one t => .one (.t t)
  | .agg ts => .agg (ts.map .t)
def gV (k : Nat) : Bool × D → V
  | (false, d) => d.toV
  | (true, .one t) => .one (owC k 0 t)
  | (true, .agg ts) => .agg (owCs k 0 ts)
def gE (k : Nat) : Bool × D → (Nat → Option Ev) → (Nat → Option Ev)
  | (false, _), f => f
  | (true, .one t), f => owE1 k 0 f t
  | (true, .agg ts), f => owE k 0 ts f
def initS : Nat → List (Bool × D) → Nat → V
  | _, [] => fun _ => .one .any
  | k, d :: ds => upd (initS (k + 1) ds) k (gV k d)
def initE : Nat → List (Bool × D) → Nat → Option Ev
  | _, [] => fun _ => none
  | k, d :: ds => gE k d (initE (k + 1) ds)
/-- The state at a function's beginning. -/
def initG (args : List (Bool × D)) : St := ⟨initS 0 args, fun _ => none, initE 0 args⟩

def resOf (P : Program) (σ : St) : ResultVar → Option V
  | .tmp t => if t < 1000000 then some (σ.sl t) else none
  | .cell a t => if a < 1000000 then (σ.at (σ.sl a)).bind fun (cs, o) => ldC P t cs o else none
def own1 (σ : St) (used : List Nat) (K : List Nat → Prop) : C → T → Prop
  | .t x, y => x = y ∧ y.flat = true ∧ K used
  | .nl _, .sl _ rows => rows = [] ∧ K used
  | .ow e g, .sl sz rows => e ∉ used ∧ σ.ev e = some ⟨true, sz, rows, g, true⟩ ∧ K (e :: used)
  | _, _ => False
def ownK (σ : St) (K : List Nat → Prop) : List Nat → List C → List T → Prop
  | used, [], [] => K used
  | used, c :: cs, t :: ts => own1 σ used (fun u => ownK σ K u cs ts) c t
  | _, _, _ => False
/-- What is returned is the call's own, each slice once. -/
def ownV (σ : St) : List Nat → List V → List D → Prop
  | _, [], [] => True
  | used, .one c :: vs, .one t :: ds => own1 σ used (fun u => ownV σ u vs ds) c t
  | used, .agg cs :: vs, .agg ts :: ds => ownK σ (fun u => ownV σ u vs ds) used cs ts
  | _, _, _ => False
/-- What a cell reads as, for good. -/
def CT1 (σ : St) : C → T → Prop
  | .t x, y => x = y
  | .nl _, .sl _ rows => rows = []
  | .el cs o, .ptr cs' => o = 0 ∧ cs = cs'
  | _, _ => False
def CT1s (σ : St) : List C → List T → Prop
  | [], ts => ts = []
  | c :: cs, ts => ∃ t ts', ts = t :: ts' ∧ CT1 σ c t ∧ CT1s σ cs ts'
def RV (σ : St) : List V → List D → Prop
  | [], [] => True
  | .one c :: vs, .one t :: ds => CT1 σ c t ∧ RV σ vs ds
  | .agg cs :: vs, .agg ts :: ds => CT1s σ cs ts ∧ RV σ vs ds
  | _, _ => False
def resList (P : Program) (σ : St) : List ResultVar → Option (List V)
  | [] => some []
  | r :: rs => (resOf P σ r).bind fun v => (resList P σ rs).map (v :: ·)
/-- A fresh result. -/
def PF (P : Program) (rs : List ResultVar) (res : List D) (e : Exit) (σ : St) : Prop := match e with
  | .normal => onSome (resList P σ rs) fun vs => ownV σ [] vs res
  | .ret => onSome (resList P σ rs) fun vs => ownV σ [] vs res
  | _ => False
/-- A result that may share memory. -/
def PR (P : Program) (rs : List ResultVar) (res : List D) (e : Exit) (σ : St) : Prop := match e with
  | .normal => onSome (resList P σ rs) fun vs => RV σ vs res
  | .ret => onSome (resList P σ rs) fun vs => RV σ vs res
  | _ => False

theorem RepDs.len {w : World} {A : Nat → Prop} : ∀ {ds : List D} {vs : List Value}, RepDs w A ds vs → vs.length = ds.length
  | [], vs, h => by rw [show vs = [] from h]; rfl
  | d :: ds, vs, h => by obtain ⟨v, vs', rfl, _, h2⟩ := h; simp [RepDs.len h2]

theorem RepDs.keep {w w' : World} {A A' : Nat → Prop} (hs : ∀ b, A b → w'.heap[b]? = w.heap[b]?) (ha : ∀ b, A b → A' b) : ∀ {ds : List D} {vs : List Value}, RepDs w A ds vs → RepDs w' A' ds vs
  | [], vs, h => h
  | .one t :: ds, vs, h => by obtain ⟨v, vs', rfl, h1, h2⟩ := h; exact ⟨v, vs', rfl, RepV.keep hs ha t v h1, RepDs.keep hs ha h2⟩
  | .agg ts :: ds, vs, h => by obtain ⟨v, vs', rfl, ⟨a, h0, h1⟩, h2⟩ := h; exact ⟨v, vs', rfl, ⟨a, h0, RepAll.keep hs ha ts a h1⟩, RepDs.keep hs ha h2⟩
theorem toV_vr {σ : St} {g : Gh} {w : World} {d : D} {v : Value} (h : RepD w (Fix σ g w) d v) : VR σ g w d.toV v := by
  cases d with
  | one t => exact h
  | agg ts =>
    obtain ⟨a, rfl, h⟩ := h
    refine ⟨a, rfl, ?_⟩
    induction ts generalizing a with
    | nil => unfold RepAll at h; exact h
    | cons t ts ih =>
      unfold RepAll at h
      obtain ⟨v, vs', rfl, h1, h2⟩ := h
      exact ⟨v, vs', rfl, h1, ih vs' h2⟩

/-- The values that the arguments are, with what is given away registered. -/
structure Ini (w : World) (σ : St) (g : Gh) (F : List Nat) (tp : List Nat) (k : Nat) : Prop where
  ev : ∀ e x, σ.ev e = some x → x.deep = true ∧ x.on = true ∧ x.gen = 0 ∧ OwnV w (.sl x.sz x.rows) (g.ψ e 0) (g.φ e) ∧ (∀ b ∈ g.φ e, b ∈ F) ∧ (g.φ e).Nodup ∧ (∀ b, (g.φ e).head? = some b → b ∈ tp) ∧ k * 32 ≤ e
  apart : ∀ e e', σ.ev e ≠ none → σ.ev e' ≠ none → e ≠ e' → ∀ b ∈ g.φ e, b ∉ g.φ e'
  slc : ∀ e n, ∃ ao l c, g.ψ e n = .slice ao l c
theorem Ini.nil (w : World) (sl : Nat → V) (bx : Nat → Option (List C)) (g : Gh) (k : Nat) (hs : ∀ e n, ∃ ao l c, g.ψ e n = .slice ao l c) : Ini w ⟨sl, bx, fun _ => none⟩ g [] [] k := ⟨fun e x h => (nomatch h), fun e e' h => absurd rfl h, hs⟩
theorem Ini.low {w : World} {σ : St} {g : Gh} {F tp : List Nat} {k k' : Nat} (h : Ini w σ g F tp k) (hk : k' ≤ k) : Ini w σ g F tp k' := ⟨fun e x he => by obtain ⟨a, a1, a2, b, c, d, e', f⟩ := h.ev e x he; exact ⟨a, a1, a2, b, c, d, e', by omega⟩, h.apart, h.slc⟩
/-- One more owned slice. -/
theorem Ini.add {w : World} {σ : St} {g : Gh} {F tp : List Nat} {k i sz : Nat} {rows : List (List T)} {v : Value} {fp : List Nat} (h : Ini w σ g F tp k) (hi : σ.ev i = none) (hk : k * 32 ≤ i) (ho : OwnV w (.sl sz rows) v fp) (hd : fp.Nodup) (hF : ∀ b ∈ fp, b ∉ F) (sl : Nat → V) :
    Ini w ⟨sl, σ.bx, upd σ.ev i (some ⟨true, sz, rows, 0, true⟩)⟩ { g with ψ := upd g.ψ i (fun _ => v), φ := upd g.φ i fp } (fp ++ F) (topT (.sl sz rows) fp ++ tp) k := by
  refine ⟨fun e x he => ?_, fun e e' h1 h2 hne b hb hb' => ?_, fun e n => by
    by_cases hei : e = i
    · subst hei; unfold OwnV at ho; obtain ⟨ao, cap, k1, _⟩ := ho; exact ⟨ao, _, cap, by simp only [upd_same]; exact k1⟩
    · simp only [upd_ne _ _ hei]; exact h.slc e n⟩
  · by_cases hei : e = i
    · subst hei
      simp only [upd_same, Option.some.injEq] at he ⊢
      subst he
      exact ⟨rfl, rfl, rfl, ho, fun b hb => by simp [hb], hd, fun b hb => by simp [topT, hb], hk⟩
    · simp only [upd_ne _ _ hei] at he ⊢
      obtain ⟨a, a1, a2, b, c, d, e', f⟩ := h.ev e x he
      exact ⟨a, a1, a2, b, fun q hq => by simp [c q hq], d, fun q hq => by simp [e' q hq], f⟩
  · by_cases e1 : e = i <;> by_cases e2 : e' = i
    · exact hne (e1.trans e2.symm)
    · subst e1
      simp only [upd_same, upd_ne _ _ e2] at hb hb' h2
      obtain ⟨x, hx⟩ := Option.ne_none_iff_exists'.1 h2
      exact hF b hb ((h.ev e' x hx).2.2.2.2.1 b hb')
    · subst e2
      simp only [upd_same, upd_ne _ _ e1] at hb hb' h1
      obtain ⟨x, hx⟩ := Option.ne_none_iff_exists'.1 h1
      exact hF b hb' ((h.ev e x hx).2.2.2.2.1 b hb)
    · simp only [upd_ne _ _ e1, upd_ne _ _ e2] at hb hb' h1 h2
      exact h.apart e e' h1 h2 hne b hb hb'

theorem Ini.mono {w : World} {σ : St} {g : Gh} {F F' tp tp' : List Nat} {k : Nat} (h : Ini w σ g F tp k) (h1 : ∀ b ∈ F, b ∈ F') (h2 : ∀ b ∈ tp, b ∈ tp') : Ini w σ g F' tp' k :=
  ⟨fun e x he => by obtain ⟨a, a1, a2, b, c, d, e', f⟩ := h.ev e x he; exact ⟨a, a1, a2, b, fun q hq => h1 q (c q hq), d, fun q hq => h2 q (e' q hq), f⟩, h.apart, h.slc⟩
/-- A cell of a given argument. -/
def gC (ev : Nat → Option Ev) (ψ : Nat → Nat → Value) (w : World) : C → Value → Prop
  | .ow e n, v => v = ψ e n ∧ ev e ≠ none ∧ n = 0
  | .t x, v => ∃ fp, OwnV w x v fp ∧ x.flat = true
  | _, _ => False
def gCs (ev : Nat → Option Ev) (ψ : Nat → Nat → Value) (w : World) : List C → List Value → Prop
  | [], vs => vs = []
  | c :: cs, vs => ∃ v vs', vs = v :: vs' ∧ gC ev ψ w c v ∧ gCs ev ψ w cs vs'
theorem gC.more {ev ev' : Nat → Option Ev} {ψ ψ' : Nat → Nat → Value} {w : World} (h : ∀ e, ev e ≠ none → ψ' e = ψ e ∧ ev' e ≠ none) {c : C} {v : Value} (hc : gC ev ψ w c v) : gC ev' ψ' w c v := by
  cases c <;> first | exact hc | exact ⟨hc.1.trans (by rw [(h _ hc.2.1).1]), (h _ hc.2.1).2, hc.2.2⟩
theorem gCs.more {ev ev' : Nat → Option Ev} {ψ ψ' : Nat → Nat → Value} {w : World} (h : ∀ e, ev e ≠ none → ψ' e = ψ e ∧ ev' e ≠ none) : ∀ {cs : List C} {vs : List Value}, gCs ev ψ w cs vs → gCs ev' ψ' w cs vs
  | [], _, hc => hc
  | c :: cs, vs, hc => by obtain ⟨v, vs', rfl, h1, h2⟩ := hc; exact ⟨v, vs', rfl, h1.more h, gCs.more h h2⟩
theorem Ini.cells {w : World} (d : Nat) {sl : Nat → V} {bx : Nat → Option (List C)} : ∀ (ts : List T) (vs : List Value) (fp tp : List Nat) (j : Nat) (ev : Nat → Option Ev) (g : Gh) (F tpF : List Nat), Ini w ⟨sl, bx, ev⟩ g F tpF d → (∀ i, j ≤ i → i < 32 → ev (d * 32 + i) = none) → j + ts.length ≤ 32 →
    GAll w ts vs fp tp → fp.Nodup → (∀ b ∈ fp, b ∉ F) →
    ∃ g', Ini w ⟨sl, bx, owE d j ts ev⟩ g' (fp ++ F) (tp ++ tpF) d ∧ g'.A0 = g.A0 ∧ g'.R0 = g.R0 ∧ (∀ e, ev e ≠ none → g'.ψ e = g.ψ e ∧ owE d j ts ev e ≠ none) ∧ gCs (owE d j ts ev) g'.ψ w (owCs d j ts) vs ∧ ∀ e, e < d * 32 + j → owE d j ts ev e = ev e
  | [], vs, fp, tp, j, ev, g, F, tpF, hI, hf, hl, hg, hn, hb => by
    obtain ⟨rfl, rfl, rfl⟩ := hg
    exact ⟨g, hI, rfl, rfl, fun e he => ⟨rfl, he⟩, rfl, fun e _ => rfl⟩
  | t :: ts, vs, fp, tp, j, ev, g, F, tpF, hI, hf, hl, hg, hn, hb => by
    obtain ⟨v, vs', f1, f2, t2, rfl, rfl, rfl, h1, h2⟩ := hg
    obtain ⟨n1, n2, n3⟩ := List.nodup_append.1 hn
    simp only [List.length_cons] at hl
    by_cases hfl : t.flat = true
    · have he1 : owE1 d j ev t = ev ∧ owC d j t = .t t ∧ f1 = [] ∧ topT t f1 = [] := by
        cases t <;> simp only [T.flat, Bool.false_eq_true] at hfl <;> unfold OwnV at h1
        · exact ⟨rfl, rfl, h1.2.2.2, rfl⟩
        · exact ⟨rfl, rfl, h1.2, rfl⟩
        · exact ⟨rfl, rfl, h1.2.2, rfl⟩
      obtain ⟨q1, q2, rfl, q4⟩ := he1
      obtain ⟨g', k1, k2, k3, k4, k5, k6⟩ := Ini.cells d ts vs' f2 t2 (j + 1) ev g F tpF hI (fun i hi => hf i (by omega)) (by omega) h2 n2 (fun b hb' => hb b (by simp [hb']))
      refine ⟨g', ?_, k2, k3, ?_, ?_, fun e he => ?_⟩
      · rw [q4]; simp only [owE, q1, List.nil_append]; exact k1
      · simp only [owE, q1]; exact k4
      · simp only [owE, q1, owCs, q2]; exact ⟨v, vs', rfl, ⟨[], h1, hfl⟩, k5⟩
      · simp only [owE, q1]; exact k6 e (by omega)
    · cases t <;> simp only [T.flat, Bool.false_eq_true, not_false_eq_true, not_true] at hfl
      · rename_i sz rows
        have hi : ev (d * 32 + j) = none := hf j (Nat.le_refl _) (by omega)
        have hadd := hI.add (i := d * 32 + j) (sz := sz) (rows := rows) (v := v) (fp := f1) hi (by omega) h1 n1 (fun b hb' => hb b (by simp [hb'])) sl
        obtain ⟨g', k1, k2, k3, k4, k5, k6⟩ := Ini.cells d ts vs' f2 t2 (j + 1) _ _ _ _ hadd (fun i hi h32 => by rw [upd_ne _ _ (by omega)]; exact hf i (by omega) h32) (by omega) h2 n2 (fun b hb' => by
          simp only [List.mem_append, not_or]
          exact ⟨fun h => n3 b h b hb' rfl, hb b (by simp [hb'])⟩)
        have hnew := k4 (d * 32 + j) (by rw [upd_same]; simp)
        simp only [upd_same] at hnew
        refine ⟨g', ?_, k2, k3, fun e he => ?_, ⟨v, vs', rfl, ⟨by rw [hnew.1], hnew.2, rfl⟩, k5⟩, fun e he => ?_⟩
        · exact k1.mono (fun b hb' => by simp only [List.mem_append] at hb' ⊢; rcases hb' with h | h | h <;> simp [h]) (fun b hb' => by simp only [List.mem_append] at hb' ⊢; rcases hb' with h | h | h <;> simp [h])
        · have hne : e ≠ d * 32 + j := fun h => he (h ▸ hi)
          have := k4 e (by rw [upd_ne _ _ hne]; exact he)
          simp only [upd_ne _ _ hne] at this
          exact this
        · have := k6 e (by omega)
          simp only [owE, owE1]
          rw [this, upd_ne _ _ (by omega)]
      · unfold OwnV at h1; exact h1.elim
      · unfold OwnV at h1; exact h1.elim
      · unfold OwnV at h1; exact h1.elim
/-- One argument, in the state. -/
def gD (ev : Nat → Option Ev) (ψ : Nat → Nat → Value) (w : World) (A : Nat → Prop) (k : Nat) : Bool × D → Value → Prop
  | (false, d), v => RepD w A d v
  | (true, .one t), v => gC ev ψ w (owC k 0 t) v
  | (true, .agg ts), v => ∃ a, v = .agg ⟨a⟩ ∧ gCs ev ψ w (owCs k 0 ts) a
theorem gD.more {ev ev' : Nat → Option Ev} {ψ ψ' : Nat → Nat → Value} {w : World} {A : Nat → Prop} {k : Nat} (h : ∀ e, ev e ≠ none → ψ' e = ψ e ∧ ev' e ≠ none) {d : Bool × D} {v : Value} (hc : gD ev ψ w A k d v) : gD ev' ψ' w A k d v := by
  obtain ⟨b, d⟩ := d
  cases b
  · exact hc
  · cases d with
    | one t => exact gC.more h hc
    | agg ts => obtain ⟨a, h1, h2⟩ := hc; exact ⟨a, h1, h2.more h⟩
def smallG : List (Bool × D) → Prop
  | [] => True
  | (true, .agg ts) :: ds => ts.length ≤ 32 ∧ smallG ds
  | _ :: ds => smallG ds
theorem Ini.args {w : World} {A : Nat → Prop} {sl : Nat → V} {bx : Nat → Option (List C)} (g : Gh) (hs0 : ∀ e n, ∃ ao l c, g.ψ e n = .slice ao l c) : ∀ (ds : List (Bool × D)) (vs : List Value) (fp tp : List Nat) (k : Nat), GArgs w A ds vs fp tp → fp.Nodup → smallG ds →
    ∃ g', Ini w ⟨sl, bx, initE k ds⟩ g' fp tp k ∧ g'.A0 = g.A0 ∧ g'.R0 = g.R0 ∧ vs.length = ds.length ∧ ∀ (i : Nat) d v, ds[i]? = some d → vs[i]? = some v → gD (initE k ds) g'.ψ w A (k + i) d v
  | [], vs, fp, tp, k, hg, hn, hs => by
    obtain ⟨rfl, rfl, rfl⟩ := hg
    exact ⟨g, Ini.nil _ _ _ _ _ hs0, rfl, rfl, rfl, fun i d v h => by simp at h⟩
  | (false, d) :: ds, vs, fp, tp, k, hg, hn, hs => by
    obtain ⟨v, vs', rfl, h1, h2⟩ := hg
    obtain ⟨g', k1, k2, k3, k4, k5⟩ := Ini.args g hs0 ds vs' fp tp (k + 1) h2 hn (by cases d <;> exact hs)
    refine ⟨g', k1.low (by omega), k2, k3, by simp [k4], fun i d' v' hi hv => ?_⟩
    cases i with
    | zero =>
      simp only [List.getElem?_cons_zero, Option.some.injEq] at hi hv
      subst hi hv
      exact h1
    | succ i =>
      have := k5 i d' v' (by simpa using hi) (by simpa using hv)
      rw [show k + (i + 1) = k + 1 + i by omega]
      exact this
  | (true, .one t) :: ds, vs, fp, tp, k, hg, hn, hs => by
    obtain ⟨v, vs', f1, f2, t1, t2, rfl, rfl, rfl, ⟨h1, rfl⟩, h2⟩ := hg
    obtain ⟨n1, n2, n3⟩ := List.nodup_append.1 hn
    obtain ⟨g', k1, k2, k3, k4, k5⟩ := Ini.args g hs0 ds vs' f2 t2 (k + 1) h2 n2 hs
    obtain ⟨g'', j1, j2, j3, j4, j5, j6⟩ := Ini.cells (sl := sl) (bx := bx) k [t] [v] f1 (topT t f1) 0 (initE (k + 1) ds) g' f2 t2 (k1.low (by omega)) (fun i _ hi => by
      cases hx : initE (k + 1) ds (k * 32 + i) with
      | none => rfl
      | some x => have := (k1.ev _ x hx).2.2.2.2.2.2.2; omega) (by simp) ⟨v, [], f1, [], [], rfl, by simp, by simp, h1, rfl, rfl, rfl⟩ n1 (fun b hb hb' => n3 b hb b hb' rfl)
    refine ⟨g'', j1, j2.trans k2, j3.trans k3, by simp [k4], fun i d' v' hi hv => ?_⟩
    cases i with
    | zero =>
      simp only [List.getElem?_cons_zero, Option.some.injEq] at hi hv
      subst hi hv
      obtain ⟨u, us, e, q, _⟩ := j5
      cases e
      exact q
    | succ i =>
      have := k5 i d' v' (by simpa using hi) (by simpa using hv)
      rw [show k + (i + 1) = k + 1 + i by omega]
      exact this.more j4
  | (true, .agg ts) :: ds, vs, fp, tp, k, hg, hn, hs => by
    obtain ⟨v, vs', f1, f2, t1, t2, rfl, rfl, rfl, ⟨a, rfl, h1⟩, h2⟩ := hg
    obtain ⟨n1, n2, n3⟩ := List.nodup_append.1 hn
    obtain ⟨g', k1, k2, k3, k4, k5⟩ := Ini.args g hs0 ds vs' f2 t2 (k + 1) h2 n2 hs.2
    obtain ⟨g'', j1, j2, j3, j4, j5, j6⟩ := Ini.cells (sl := sl) (bx := bx) k ts a f1 t1 0 (initE (k + 1) ds) g' f2 t2 (k1.low (by omega)) (fun i _ hi => by
      cases hx : initE (k + 1) ds (k * 32 + i) with
      | none => rfl
      | some x => have := (k1.ev _ x hx).2.2.2.2.2.2.2; omega) (by simpa using hs.1) h1 n1 (fun b hb hb' => n3 b hb b hb' rfl)
    refine ⟨g'', j1, j2.trans k2, j3.trans k3, by simp [k4], fun i d' v' hi hv => ?_⟩
    cases i with
    | zero =>
      simp only [List.getElem?_cons_zero, Option.some.injEq] at hi hv
      subst hi hv
      exact ⟨a, rfl, j5⟩
    | succ i =>
      have := k5 i d' v' (by simpa using hi) (by simpa using hv)
      rw [show k + (i + 1) = k + 1 + i by omega]
      exact this.more j4

theorem initS_at : ∀ (ds : List (Bool × D)) (k i : Nat), initS k ds (k + i) = match ds[i]? with | some d => gV (k + i) d | none => .one .any
  | [], k, i => by simp [initS]
  | d :: ds, k, 0 => by simp [initS, upd]
  | d :: ds, k, i + 1 => by
    unfold initS
    rw [upd_ne _ _ (by omega), show k + (i + 1) = k + 1 + i by omega, initS_at ds (k + 1) i]
    simp
theorem gC.cr {σ : St} {g : Gh} {w : World} {c : C} {v : Value} (h : gC σ.ev g.ψ w c v) : CR σ g w c v := by
  cases c with
  | ow e n => obtain ⟨h1, h2, rfl⟩ := h; obtain ⟨x, hx⟩ := Option.ne_none_iff_exists'.1 h2; exact ⟨h1, x, hx, Nat.zero_le _⟩
  | t x =>
    obtain ⟨fp, h1, h2⟩ := h
    cases x <;> simp only [T.flat, Bool.false_eq_true] at h2 <;> unfold OwnV at h1 <;> simp only [CR, RepV]
    · exact ⟨h1.1, h1.2.1, h1.2.2.1⟩
    · exact h1.1
    · exact ⟨h1.1, h1.2.1⟩
  | _ => exact h.elim
theorem gCs.crs {σ : St} {g : Gh} {w : World} : ∀ {cs : List C} {vs : List Value}, gCs σ.ev g.ψ w cs vs → CRs σ g w cs vs
  | [], _, h => h
  | c :: cs, vs, h => by obtain ⟨v, vs', rfl, h1, h2⟩ := h; exact ⟨v, vs', rfl, h1.cr, gCs.crs h2⟩

/-- The relation at a function's beginning. -/
theorem Rel.start {w : World} {args : List (Bool × D)} {vs : List Value} {N : Nat} {A A0 : Nat → Prop} {R0 : RP} {fp tp : List Nat} (h : GArgs w (fun b => b < w.heap.size ∧ A b ∧ b ∉ fp) args vs fp tp) (hn : fp.Nodup) (hs : smallG args) (hN : args.length ≤ N)
    (hA : ∀ b, A b → A0 b) (hF : ∀ b ∈ fp, A0 b ∧ R0 b) (hnew : ∀ b, ¬ (b < w.heap.size ∧ b ∉ fp) → A0 b ∧ R0 b) :
    ∃ g, (g.A0, g.R0) = (A0, R0) ∧ Rel (fun b => b < w.heap.size ∧ b ∉ fp) N (initG args) g { tmps := (⟨vs⟩ : Array Value) ++ Array.replicate (N - vs.length) undef, defers := [] } w := by
  obtain ⟨g, k1, k2, k3, k4, k5⟩ := Ini.args (sl := initS 0 args) (bx := fun _ => none) ⟨fun _ => 0, fun _ _ => .slice none 0 0, fun _ => [], A0, R0⟩ (fun _ _ => ⟨_, _, _, rfl⟩) args vs fp tp 0 h hn hs
  refine ⟨g, by rw [k2, k3], ?_⟩
  have hfix : ∀ b, (b < w.heap.size ∧ A b ∧ b ∉ fp) → Fix (initG args) g w b := fun b hb => by
    refine ⟨fun k hk => absurd rfl hk, fun e x hx ho hh => ?_, hb.1, by rw [k2]; exact hA b hb.2.1⟩
    exact hb.2.2 ((k1.ev e x hx).2.2.2.2.1 b (List.mem_of_mem_head? hh))
  refine ⟨rfl, by simp; omega, fun b hb => by rw [k2, k3]; exact hnew b hb, fun i => ?_, fun b cs hb => (nomatch hb), fun b hb => absurd rfl hb, fun b b' hb => absurd rfl hb, fun e x he ho => ?_, fun e x he ho => ?_, k1.slc, fun e he b hb => ?_, fun e he b hb => ?_, fun e he => ?_, fun e e' h1 h2 hne => k1.apart e e' (by obtain ⟨x, hx, _⟩ := h1; exact fun hh => by cases hx.symm.trans hh) (by obtain ⟨x, hx, _⟩ := h2; exact fun hh => by cases hx.symm.trans hh) hne, fun e k _ hk => absurd rfl hk⟩
  · show VR _ _ _ (initS 0 args i) _
    have hi0 := initS_at args 0 i
    simp only [Nat.zero_add] at hi0
    rw [hi0]
    cases hd : args[i]? with
    | none => trivial
    | some d =>
      have hlt : i < vs.length := by rw [k4]; exact (List.getElem?_eq_some_iff.1 hd).1
      have hv := k5 i d vs[i] hd (by simp [hlt])
      simp only [Nat.zero_add] at hv
      have hg : ((⟨vs⟩ : Array Value) ++ Array.replicate (N - vs.length) undef).getD i (g.R0.ξ i) = vs[i] := by
        rw [Array.getD_eq_getD_getElem?, Array.getElem?_append_left (by simpa using hlt)]
        simp [hlt]
      simp only
      rw [hg]
      obtain ⟨b, d⟩ := d
      cases b
      · exact toV_vr (by cases d with
          | one t => exact RepV.keep (fun _ _ => rfl) hfix t _ hv
          | agg ts => obtain ⟨a, h1, h2⟩ := hv; exact ⟨a, h1, RepAll.keep (fun _ _ => rfl) hfix ts a h2⟩)
      · cases d with
        | one t => exact gC.cr hv
        | agg ts => obtain ⟨a, h1, h2⟩ := hv; exact ⟨a, h1, h2.crs⟩
  · obtain ⟨h1, _, h0, h2, _⟩ := k1.ev e x he
    rw [h0]
    unfold OwnV at h2
    obtain ⟨ao, cap, j1, j2, j3, j4⟩ := h2
    refine ⟨ao, cap, j1, j2, j3, ?_⟩
    rcases j4 with j4 | ⟨b, cells, ty, fps, j4, j5, j6, j7, j8⟩
    · exact Or.inl j4
    · exact Or.inr ⟨b, cells, ty, fps, j4, j5, j6, j7, by rw [if_pos h1]; exact j8⟩
  · rw [(k1.ev e x he).2.1] at ho; cases ho
  · obtain ⟨x, hx, _⟩ := he
    rw [k2, k3]
    exact hF b ((k1.ev e x hx).2.2.2.2.1 b hb)
  · obtain ⟨x, hx, _⟩ := he
    exact fun hk => hk.2 ((k1.ev e x hx).2.2.2.2.1 b hb)
  · obtain ⟨x, hx, _⟩ := he
    exact (k1.ev e x hx).2.2.2.2.2.1

/-- One result. -/
def resRun (a : Act) : ResultVar → Sem Value
  | .tmp t => pure (a.tmps.getD t undef)
  | .cell b t => do loadVar t (← asAddr (a.tmps.getD b undef))
theorem resOf_run {n0 : Nat → Prop} {N : Nat} {σ : St} {g : Gh} {a : Act} {w : World} (hR : Rel n0 N σ g a w) {r : ResultVar} {v : V} (h : resOf P σ r = some v) :
    ∃ u, (resRun a r).run P w = .ok u w ∧ VR σ g w v u := by
  cases r with
  | tmp t =>
    unfold resOf at h
    simp only at h
    split at h
    · cases h; exact ⟨_, rfl, hR.slot_at ‹_›⟩
    · cases h
  | cell b t =>
    unfold resOf at h
    simp only at h
    split at h
    · rename_i hb
      obtain ⟨⟨cs, o⟩, h1, h2⟩ := Option.bind_eq_some_iff.1 h
      obtain ⟨k, q, e1, e2⟩ := hR.at (hR.slot_at hb) h1
      obtain ⟨u, u1, u2⟩ := load_run h2 e2
      refine ⟨u, ?_, u2⟩
      simp only [resRun, e1, asAddr, Sem.run_bind, Sem.run_pure, Result.andThen, u1]
    · cases h
def VRl (σ : St) (g : Gh) (w : World) : List V → List Value → Prop
  | [], us => us = []
  | v :: vs, us => ∃ u us', us = u :: us' ∧ VR σ g w v u ∧ VRl σ g w vs us'
theorem resList_run {n0 : Nat → Prop} {N : Nat} {σ : St} {g : Gh} {a : Act} {w : World} (hR : Rel n0 N σ g a w) : ∀ (rs : List ResultVar) (vs : List V), resList P σ rs = some vs →
    ∃ us, (rs.mapM (resRun a)).run P w = .ok us w ∧ VRl σ g w vs us
  | [], vs, h => by cases h; exact ⟨[], by simp, rfl⟩
  | r :: rs, vs, h => by
    obtain ⟨v, h1, h2⟩ := Option.bind_eq_some_iff.1 h
    obtain ⟨vs', h3, rfl⟩ := Option.map_eq_some_iff.1 h2
    obtain ⟨u, u1, u2⟩ := resOf_run hR h1
    obtain ⟨us, k1, k2⟩ := resList_run hR rs vs' h3
    refine ⟨u :: us, ?_, u, us, rfl, u2, k2⟩
    simp only [List.mapM_cons, Sem.run_bind, u1, k1, Result.andThen, Sem.run_pure]
theorem results_run {n0 : Nat → Prop} {N : Nat} {σ : St} {g : Gh} {a : Act} {w : World} (hR : Rel n0 N σ g a w) (fn : Func) {vs : List V} (h : resList P σ fn.results.toList = some vs) :
    ∃ us, (results fn a.tmps).run P w = .ok (resVal us) w ∧ VRl σ g w vs us := by
  obtain ⟨us, h1, h2⟩ := resList_run hR _ _ h
  refine ⟨us, ?_, h2⟩
  have he : results fn a.tmps = (do let vs ← fn.results.mapM (resRun a); pure (if h : vs.size = 1 then vs[0] else .tuple vs)) := by
    unfold results
    congr 2
  rw [he, Array.mapM_eq_mapM_toList]
  simp only [Sem.run_bind, Sem.run_map, h1, Result.andThen]
  rcases us with _ | ⟨u, _ | ⟨u', us⟩⟩
  · rfl
  · rfl
  · simp [resVal]

/-- The owned slices' blocks, one list behind the other. -/
theorem own_event {n0 : Nat → Prop} {N : Nat} {σ : St} {g : Gh} {a : Act} {w : World} (hR : Rel n0 N σ g a w) {e sz n : Nat} {rows : List (List T)} (he : σ.ev e = some ⟨true, sz, rows, n, true⟩) : OwnV w (.sl sz rows) (g.ψ e n) (g.φ e) := by
  obtain ⟨ao, cap, e1, e2, e3, e4⟩ := hR.evs e _ he rfl
  unfold OwnV
  refine ⟨ao, cap, e1, e2, e3, ?_⟩
  rcases e4 with e4 | ⟨b, cells, ty, fps, k1, k2, k3, k4, k5⟩
  · exact Or.inl e4
  · exact Or.inr ⟨b, cells, ty, fps, k1, k2, k3, k4, by simpa using k5⟩
/-- Blocks of owned slices that are not among the used ones. -/
def Blk (σ : St) (g : Gh) (used used' : List Nat) (fp tp : List Nat) : Prop := fp.Nodup ∧ (∀ b ∈ fp, ∃ e ∈ used', e ∉ used ∧ σ.On e ∧ b ∈ g.φ e) ∧ (∀ e ∈ used, e ∈ used') ∧ ∀ b ∈ tp, ∃ e, σ.On e ∧ (g.φ e).head? = some b
theorem Blk.nil {σ : St} {g : Gh} (used : List Nat) : Blk σ g used used [] [] := ⟨List.nodup_nil, by simp, fun _ h => h, by simp⟩
theorem Blk.append {n0 : Nat → Prop} {N : Nat} {σ : St} {g : Gh} {a : Act} {w : World} (hR : Rel n0 N σ g a w) {u1 u2 u3 : List Nat} {f1 f2 t1 t2 : List Nat} (h : Blk σ g u1 u2 f1 t1) (k : Blk σ g u2 u3 f2 t2) : Blk σ g u1 u3 (f1 ++ f2) (t1 ++ t2) := by
  refine ⟨List.nodup_append.2 ⟨h.1, k.1, fun b hb c hc e => ?_⟩, fun b hb => ?_, fun e he => k.2.2.1 e (h.2.2.1 e he), fun b hb => ?_⟩
  · subst e
    obtain ⟨e1, m1, _, l1, b1⟩ := h.2.1 b hb
    obtain ⟨e2, m2, n2, l2, b2⟩ := k.2.1 b hc
    exact hR.apart e1 e2 l1 l2 (fun e => n2 (e ▸ m1)) b b1 b2
  · rcases List.mem_append.1 hb with hb | hb
    · obtain ⟨e, m, n, l, x⟩ := h.2.1 b hb
      exact ⟨e, k.2.2.1 e m, n, l, x⟩
    · obtain ⟨e, m, n, l, x⟩ := k.2.1 b hb
      exact ⟨e, m, fun hu => n (h.2.2.1 e hu), l, x⟩
  · rcases List.mem_append.1 hb with hb | hb
    · exact h.2.2.2 b hb
    · exact k.2.2.2 b hb
theorem own1_sound {n0 : Nat → Prop} {N : Nat} {σ : St} {g : Gh} {a : Act} {w : World} (hR : Rel n0 N σ g a w) {used : List Nat} {K : List Nat → Prop} {c : C} {t : T} (h : own1 σ used K c t) {v : Value} (hv : CR σ g w c v) :
    ∃ used' fp, K used' ∧ OwnV w t v fp ∧ Blk σ g used used' fp (topT t fp) := by
  unfold own1 at h
  split at h
  · obtain ⟨rfl, h2, h3⟩ := h
    rename_i x
    simp only [CR] at hv
    cases x <;> simp only [T.flat, Bool.false_eq_true] at h2
    · refine ⟨used, [], h3, ?_, Blk.nil _⟩
      unfold RepV at hv; unfold OwnV; exact ⟨hv.1, hv.2.1, hv.2.2, rfl⟩
    · refine ⟨used, [], h3, ?_, Blk.nil _⟩
      unfold RepV at hv; unfold OwnV; exact ⟨hv, rfl⟩
    · refine ⟨used, [], h3, ?_, Blk.nil _⟩
      unfold RepV at hv; unfold OwnV; exact ⟨hv.1, hv.2, rfl⟩
  · obtain ⟨rfl, h3⟩ := h
    refine ⟨used, [], h3, ?_, Blk.nil _⟩
    unfold OwnV
    exact ⟨none, 0, hv, by simp, by simp, Or.inl ⟨rfl, rfl, rfl, rfl⟩⟩
  · rename_i e n sz rows
    obtain ⟨h1, h2, h3⟩ := h
    have hl : σ.On e := ⟨_, h2, rfl⟩
    refine ⟨e :: used, g.φ e, h3, by rw [hv.1]; exact own_event hR h2, hR.nodup e hl, fun b hb => ⟨e, by simp, h1, hl, hb⟩, fun x hx => by simp [hx], fun b hb => ⟨e, hl, by simpa [topT] using hb⟩⟩
  · exact h.elim
theorem ownK_sound {n0 : Nat → Prop} {N : Nat} {σ : St} {g : Gh} {a : Act} {w : World} (hR : Rel n0 N σ g a w) {K : List Nat → Prop} : ∀ {cs : List C} {ts : List T} {used : List Nat}, ownK σ K used cs ts → ∀ {vs : List Value}, CRs σ g w cs vs →
    ∃ used' fp tp, K used' ∧ GAll w ts vs fp tp ∧ Blk σ g used used' fp tp
  | [], [], used, h, vs, hv => by rw [show vs = [] from hv]; exact ⟨used, [], [], h, ⟨rfl, rfl, rfl⟩, Blk.nil _⟩
  | c :: cs, t :: ts, used, h, vs, hv => by
    obtain ⟨v, vs', rfl, h1, h2⟩ := hv
    obtain ⟨u1, f1, k1, k2, k3⟩ := own1_sound hR h h1
    obtain ⟨u2, f2, t2, j1, j2, j3⟩ := ownK_sound hR k1 h2
    exact ⟨u2, f1 ++ f2, topT t f1 ++ t2, j1, ⟨v, vs', f1, f2, t2, rfl, rfl, rfl, k2, j2⟩, k3.append hR j3⟩
  | [], _ :: _, _, h, _, _ => h.elim
  | _ :: _, [], _, h, _, _ => h.elim
theorem ownV_sound {n0 : Nat → Prop} {N : Nat} {σ : St} {g : Gh} {a : Act} {w : World} (hR : Rel n0 N σ g a w) : ∀ {vs : List V} {ds : List D} {used : List Nat}, ownV σ used vs ds → ∀ {us : List Value}, VRl σ g w vs us →
    ∃ used' fp tp, GDs w ds us fp tp ∧ Blk σ g used used' fp tp
  | [], [], used, h, us, hv => by rw [show us = [] from hv]; exact ⟨used, [], [], ⟨rfl, rfl, rfl⟩, Blk.nil _⟩
  | .one c :: vs, .one t :: ds, used, h, us, hv => by
    obtain ⟨u, us', rfl, h1, h2⟩ := hv
    obtain ⟨u1, f1, k1, k2, k3⟩ := own1_sound hR h h1
    obtain ⟨u2, f2, t2, j1, j2⟩ := ownV_sound hR k1 h2
    exact ⟨u2, f1 ++ f2, topT t f1 ++ t2, ⟨u, us', f1, f2, topT t f1, t2, rfl, rfl, rfl, ⟨k2, rfl⟩, j1⟩, k3.append hR j2⟩
  | .agg cs :: vs, .agg ts :: ds, used, h, us, hv => by
    obtain ⟨u, us', rfl, ⟨x, rfl, h1⟩, h2⟩ := hv
    obtain ⟨u1, f1, t1, k1, k2, k3⟩ := ownK_sound hR h h1
    obtain ⟨u2, f2, t2, j1, j2⟩ := ownV_sound hR k1 h2
    exact ⟨u2, f1 ++ f2, t1 ++ t2, ⟨_, us', f1, f2, t1, t2, rfl, rfl, rfl, ⟨x, rfl, k2⟩, j1⟩, k3.append hR j2⟩

theorem CT0.rep {n0 : Nat → Prop} {N : Nat} {σ : St} {g : Gh} {a : Act} {w : World} (hR : Rel n0 N σ g a w) {c : C} {t : T} (h : CT0 σ c t) {v : Value} (hv : CR σ g w c v) : RepV w (· < w.heap.size) t v := by
  unfold CT0 at h
  split at h
  · subst h; exact RepV.keep (fun _ _ => rfl) (fun b hb => hb.2.2.1) _ _ hv
  · subst h
    rw [show v = .slice none 0 0 from hv]
    unfold RepV
    exact ⟨none, 0, rfl, by simp, by simp, Or.inl rfl⟩
  · rename_i e n sz rows
    obtain ⟨d, o, hd⟩ := h
    rw [hv.1]
    cases o with
    | true =>
      obtain ⟨ao, cap, e1, e2, e3, e4⟩ := hR.evs e _ hd rfl
      unfold RepV
      refine ⟨ao, cap, e1, e2, e3, ?_⟩
      rcases e4 with ⟨_, _, e4, _⟩ | ⟨b, cells, ty, fps, k1, k2, k3, k4, k5⟩
      · exact Or.inl e4
      · refine Or.inr ⟨b, 0, k1, (Array.getElem?_eq_some_iff.1 k3).1, ?_⟩
        split at k5
        · exact OwnRows.rep b cells ty k3 0 sz rows fps k5 fun b' hb' => OwnRows.lt cells 0 sz rows fps k5 b' hb'
        · exact RepRows.keep (fun _ _ => rfl) (fun b hb => hb.2.2.1) b rfl 0 sz rows k5.2
    | false =>
      exact RepV.keep (fun _ _ => rfl) (fun b hb => hb.2.2.1) _ _ (hR.offs e _ hd rfl).1
  · obtain ⟨rfl, rfl⟩ := h
    obtain ⟨b, q, rfl, h2, h3⟩ := hv
    unfold RepV
    exact ⟨b, q, by simp, h2.2.2.1, RepAt.keep (fun _ _ => rfl) (fun b hb => hb.2.2.1) b rfl q _ h3⟩
  · exact h.elim
theorem CT0s.rep {n0 : Nat → Prop} {N : Nat} {σ : St} {g : Gh} {a : Act} {w : World} (hR : Rel n0 N σ g a w) : ∀ {cs : List C} {ts : List T}, CT0s σ cs ts → ∀ {vs : List Value}, CRs σ g w cs vs → RepAll w (· < w.heap.size) ts vs
  | [], ts, h, vs, hv => by rw [show ts = [] from h]; unfold RepAll; exact hv
  | c :: cs, ts, h, vs, hv => by
    obtain ⟨t, ts', rfl, h1, h2⟩ := h
    obtain ⟨v, vs', rfl, k1, k2⟩ := hv
    unfold RepAll
    exact ⟨v, vs', rfl, CT0.rep hR h1 k1, CT0s.rep hR h2 k2⟩
theorem CTb.rep {n0 : Nat → Prop} {N : Nat} {σ : St} {g : Gh} {a : Act} {w : World} (hR : Rel n0 N σ g a w) {b : Nat} {t : T} (h : CTb σ b t) : RepV w (· < w.heap.size) t (.pointer (some ⟨g.β b, 0, none⟩)) := by
  obtain ⟨cs, ts, h1, rfl, h2⟩ := h
  obtain ⟨vs, ty, k1, k2⟩ := hR.boxes b cs h1
  have hA := CT0s.rep hR h2 k2
  unfold RepV
  refine ⟨g.β b, 0, rfl, (Array.getElem?_eq_some_iff.1 k1).1, RepAt.mk fun j c hj => ?_⟩
  obtain ⟨u, u1, u2⟩ := hA.at j c hj
  exact ⟨u, by simpa [World.cell?, k1] using u1, u2⟩
theorem CTf.rep {n0 : Nat → Prop} {N : Nat} {σ : St} {g : Gh} {a : Act} {w : World} (hR : Rel n0 N σ g a w) : ∀ {bs : List Nat} {ts : List T}, CTf σ bs ts → RepAll w (· < w.heap.size) ts (bs.map fun b => .pointer (some ⟨g.β b, 0, none⟩))
  | [], ts, h => by rw [show ts = [] from h]; unfold RepAll; rfl
  | b :: bs, ts, h => by
    obtain ⟨t, ts', rfl, h1, h2⟩ := h
    unfold RepAll
    exact ⟨_, _, rfl, CTb.rep hR h1, CTf.rep hR h2⟩
theorem CT.rep {n0 : Nat → Prop} {N : Nat} {σ : St} {g : Gh} {a : Act} {w : World} (hR : Rel n0 N σ g a w) {c : C} {t : T} (h : CT σ c t) {v : Value} (hv : CR σ g w c v) : RepV w (· < w.heap.size) t v := by
  unfold CT at h
  split at h
  · rw [hv.1]; exact CTb.rep hR h
  · obtain ⟨rfl, h⟩ := h
    rw [hv.1]
    unfold RepV
    exact ⟨_, rfl, CTf.rep hR h⟩
  · exact CT0.rep hR h hv
theorem CTs.rep {n0 : Nat → Prop} {N : Nat} {σ : St} {g : Gh} {a : Act} {w : World} (hR : Rel n0 N σ g a w) : ∀ {cs : List C} {ts : List T}, CTs σ cs ts → ∀ {vs : List Value}, CRs σ g w cs vs → RepAll w (· < w.heap.size) ts vs
  | [], ts, h, vs, hv => by rw [show ts = [] from h]; unfold RepAll; exact hv
  | c :: cs, ts, h, vs, hv => by
    obtain ⟨t, ts', rfl, h1, h2⟩ := h
    obtain ⟨v, vs', rfl, k1, k2⟩ := hv
    unfold RepAll
    exact ⟨v, vs', rfl, CT.rep hR h1 k1, CTs.rep hR h2 k2⟩
theorem VDs.rep {n0 : Nat → Prop} {N : Nat} {σ : St} {g : Gh} {a : Act} {w : World} (hR : Rel n0 N σ g a w) : ∀ {xs : List V} {ds : List D}, VDs σ xs ds → ∀ {vs : List Value}, VRl σ g w xs vs → RepDs w (· < w.heap.size) ds vs
  | [], ds, h, vs, hv => by rw [show ds = [] from h]; exact hv
  | x :: xs, ds, h, vs, hv => by
    obtain ⟨d, ds', rfl, h1, h2⟩ := h
    obtain ⟨v, vs', rfl, k1, k2⟩ := hv
    refine ⟨v, vs', rfl, ?_, VDs.rep hR h2 k2⟩
    unfold VD at h1
    split at h1
    · exact CT.rep hR h1 k1
    · obtain ⟨u, rfl, k1⟩ := k1; exact ⟨u, rfl, CTs.rep hR h1 k1⟩
    · exact h1.elim
theorem CT1.rep {σ : St} {g : Gh} {w : World} {c : C} {t : T} (h : CT1 σ c t) {v : Value} (hv : CR σ g w c v) : RepV w (Fix σ g w) t v := by
  unfold CT1 at h
  split at h
  · subst h; exact hv
  · subst h
    rw [show v = .slice none 0 0 from hv]
    unfold RepV
    exact ⟨none, 0, rfl, by simp, by simp, Or.inl rfl⟩
  · obtain ⟨rfl, rfl⟩ := h
    obtain ⟨b, q, rfl, h2, h3⟩ := hv
    unfold RepV
    exact ⟨b, q, by simp, h2, h3⟩
  · exact h.elim
theorem CT1s.rep {σ : St} {g : Gh} {w : World} : ∀ {cs : List C} {ts : List T}, CT1s σ cs ts → ∀ {vs : List Value}, CRs σ g w cs vs → RepAll w (Fix σ g w) ts vs
  | [], ts, h, vs, hv => by rw [show ts = [] from h]; unfold RepAll; exact hv
  | c :: cs, ts, h, vs, hv => by
    obtain ⟨t, ts', rfl, h1, h2⟩ := h
    obtain ⟨v, vs', rfl, k1, k2⟩ := hv
    unfold RepAll
    exact ⟨v, vs', rfl, CT1.rep h1 k1, CT1s.rep h2 k2⟩
theorem RV.rep {σ : St} {g : Gh} {w : World} : ∀ {xs : List V} {ds : List D}, RV σ xs ds → ∀ {vs : List Value}, VRl σ g w xs vs → RepDs w (Fix σ g w) ds vs
  | [], [], _, vs, hv => hv
  | .one c :: xs, .one t :: ds, h, vs, hv => by
    obtain ⟨v, vs', rfl, k1, k2⟩ := hv
    exact ⟨v, vs', rfl, CT1.rep h.1 k1, RV.rep h.2 k2⟩
  | .agg cs :: xs, .agg ts :: ds, h, vs, hv => by
    obtain ⟨v, vs', rfl, ⟨u, rfl, k1⟩, k2⟩ := hv
    exact ⟨_, vs', rfl, ⟨u, rfl, CT1s.rep h.1 k1⟩, RV.rep h.2 k2⟩

theorem topT_mem (t : T) (fp : List Nat) : ∀ b ∈ topT t fp, b ∈ fp := fun b hb => by
  unfold topT at hb
  split at hb
  · cases fp with
    | nil => simp at hb
    | cons x xs => simp at hb; simp [hb]
  · simp at hb
theorem GAll.tops {w : World} : ∀ {ts : List T} {a : List Value} {fp tp : List Nat}, GAll w ts a fp tp → ∀ b ∈ tp, b ∈ fp
  | [], _, _, _, h, b, hb => by rw [h.2.2] at hb; simp at hb
  | t :: ts, _, _, _, h, b, hb => by
    obtain ⟨v, vs', g1, g2, t2', rfl, rfl, rfl, _, h3⟩ := h
    rcases List.mem_append.1 hb with hb | hb
    · exact List.mem_append_left _ (topT_mem _ _ b hb)
    · exact List.mem_append_right _ (GAll.tops h3 b hb)
/-- A function's contract out of its walk. -/
theorem GC_of {f : FuncId} {fn : Func} {c : Code} {args : List (Bool × D)} {res : List D} (hc : Callable P f) (hf : P.funcs[f]? = some fn) (hb : fn.body = some c) (hd : dstOk fn.ntmps c = true) (hN : args.length ≤ fn.ntmps) (hs : smallG args)
    (h : ex P c [] (PF P fn.results.toList res) (initG args)) : GC P f args res := by
  refine ⟨hc, fun w vs fp tp hv hn => ?_⟩
  refine calls_of_wp hf hb ?_
  have hsub : ∀ (ds : List (Bool × D)) (vs : List Value) (fp' tp' : List Nat), GArgs w (fun b => b < w.heap.size ∧ b ∉ fp) ds vs fp' tp' → GArgs w (fun b => b < w.heap.size ∧ True ∧ b ∉ fp) ds vs fp' tp' := by
    intro ds
    induction ds with
    | nil => rintro vs fp' tp' ⟨rfl, rfl, rfl⟩; exact ⟨rfl, rfl, rfl⟩
    | cons d ds ih =>
      intro vs fp' tp' h
      obtain ⟨b, d⟩ := d
      cases b
      · obtain ⟨v, vs', rfl, h1, h2⟩ := h
        refine ⟨v, vs', rfl, ?_, ih _ _ _ h2⟩
        cases d with
        | one t => exact RepV.keep (fun _ _ => rfl) (fun b hb => ⟨hb.1, trivial, hb.2⟩) t _ h1
        | agg ts => obtain ⟨a, h0, h1⟩ := h1; exact ⟨a, h0, RepAll.keep (fun _ _ => rfl) (fun b hb => ⟨hb.1, trivial, hb.2⟩) ts a h1⟩
      · obtain ⟨v, vs', f1, f2, t1, t2, rfl, rfl, rfl, h1, h2⟩ := h
        exact ⟨v, vs', f1, f2, t1, t2, rfl, rfl, rfl, h1, ih _ _ _ h2⟩
  have hv' := hsub _ _ _ _ hv
  obtain ⟨g, hg, hR⟩ := Rel.start (A0 := fun _ => True) (R0 := RP.of fun b => b ∈ fp ∨ w.heap.size ≤ b) (N := fn.ntmps) hv' hn hs hN (fun _ _ => trivial) (fun b hb => ⟨trivial, Or.inl hb⟩) (fun b hb => ⟨trivial, by
    by_cases hlt : b < w.heap.size
    · exact Or.inl (Classical.byContradiction fun h => hb ⟨hlt, h⟩)
    · exact Or.inr (by omega)⟩)
  refine wp_mono (exec_sound (w0 := w) c (initG args) _ hd h g _ w hR (fun k hk => hk.1) (Bk.refl _ _) hg) fun e a' w' hq => ?_
  obtain ⟨σ', g', h1, h2, h3, h4, h5⟩ := hq
  have key : onSome (resList P σ' fn.results.toList) (fun vs => ownV σ' [] vs res) → ∃ v, (results fn a'.tmps).run P w' = .ok v w' ∧ ∃ us fp' tp', Ending.returned v = .returned (resVal us) ∧ GDs w' res us fp' tp' ∧ fp'.Nodup ∧ (∀ b ∈ fp', b ∈ fp ∨ w.heap.size ≤ b) ∧ Bk (fun k => k < w.heap.size ∧ k ∉ fp) w w' := fun hk => by
    unfold onSome at hk
    split at hk
    · rename_i vs hvs
      obtain ⟨us, r1, r2⟩ := results_run h2 fn hvs
      obtain ⟨used, fp', tp', o1, o2⟩ := ownV_sound h2 hk r2
      refine ⟨_, r1, us, fp', tp', rfl, o1, o2.1, fun b hb => ?_, h4⟩
      obtain ⟨e, _, _, l, m⟩ := o2.2.1 b hb
      have := (h2.ebase e l b m).2
      simp only [Prod.mk.injEq] at h5
      rw [h5.2] at this
      exact this
    · exact hk.elim
  cases e with
  | normal => exact ⟨h2.defers, key h1⟩
  | ret => exact ⟨h2.defers, key h1⟩
  | exit _ => exact h1.elim
  | goto _ => exact h1.elim
  | panic _ => exact h1.elim
  | outgrown => exact h1.elim
theorem smallG_rd : ∀ (args : List D), smallG (rd args)
  | [] => trivial
  | .one _ :: ds => smallG_rd ds
  | .agg _ :: ds => smallG_rd ds
theorem FC_of {f : FuncId} {fn : Func} {c : Code} {args res : List D} (hc : Callable P f) (hf : P.funcs[f]? = some fn) (hb : fn.body = some c) (hd : dstOk fn.ntmps c = true) (hN : (rd args).length ≤ fn.ntmps)
    (h : ex P c [] (PF P fn.results.toList res) (initG (rd args))) : FC P f args res := GC_of hc hf hb hd hN (smallG_rd args) h
theorem RC_of {f : FuncId} {fn : Func} {c : Code} {args res : List D} (hc : Callable P f) (hf : P.funcs[f]? = some fn) (hb : fn.body = some c) (hd : dstOk fn.ntmps c = true) (hN : (rd args).length ≤ fn.ntmps)
    (h : ex P c [] (PR P fn.results.toList res) (initG (rd args))) : RC P f args res := by
  refine ⟨hc, fun w vs A hv => ?_⟩
  refine calls_of_wp hf hb ?_
  have hg : ∀ (ds : List D) (vs : List Value), RepDs w (fun b => b < w.heap.size ∧ A b) ds vs → GArgs w (fun b => b < w.heap.size ∧ A b ∧ b ∉ ([] : List Nat)) (rd ds) vs [] [] := by
    intro ds
    induction ds with
    | nil => intro vs h; exact ⟨h, rfl, rfl⟩
    | cons d ds ih =>
      rintro vs ⟨v, vs', rfl, h1, h2⟩
      refine ⟨v, vs', rfl, ?_, ih _ h2⟩
      cases d with
      | one t => exact RepV.keep (fun _ _ => rfl) (fun b hb => ⟨hb.1, hb.2, by simp⟩) t _ h1
      | agg ts => obtain ⟨a, h0, h1⟩ := h1; exact ⟨a, h0, RepAll.keep (fun _ _ => rfl) (fun b hb => ⟨hb.1, hb.2, by simp⟩) ts a h1⟩
  obtain ⟨g, hg, hR⟩ := Rel.start (A := A) (A0 := fun b => A b ∨ w.heap.size ≤ b) (R0 := RP.of fun _ => True) (N := fn.ntmps) (hg _ _ hv) List.nodup_nil (smallG_rd args) hN (fun _ hb => Or.inl hb) (fun b hb => by simp at hb) (fun b hb => ⟨Or.inr (by
    refine Nat.le_of_not_lt fun hlt => hb ⟨hlt, by simp⟩), trivial⟩)
  refine wp_mono (exec_sound (w0 := w) c (initG (rd args)) _ hd h g _ w hR (fun k hk => hk.1) (Bk.refl _ _) hg) fun e a' w' hq => ?_
  obtain ⟨σ', g', h1, h2, h3, h4, h5⟩ := hq
  have key : onSome (resList P σ' fn.results.toList) (fun vs => RV σ' vs res) → ∃ v, (results fn a'.tmps).run P w' = .ok v w' ∧ ∃ us, Ending.returned v = .returned (resVal us) ∧ RepDs w' (fun b => b < w'.heap.size ∧ (A b ∨ w.heap.size ≤ b)) res us ∧ Below w.heap.size w w' := fun hk => by
    unfold onSome at hk
    split at hk
    · rename_i vs hvs
      obtain ⟨us, r1, r2⟩ := results_run h2 fn hvs
      refine ⟨_, r1, us, rfl, (RV.rep hk r2).keep (fun _ _ => rfl) fun b hb => ⟨hb.2.2.1, ?_⟩, h4.os, h4.tape, h4.output, h4.size, fun k hk => h4.block k ⟨hk, by simp⟩⟩
      have := hb.2.2.2
      simp only [Prod.mk.injEq] at h5
      rw [h5.1] at this
      exact this
    · exact hk.elim
  cases e with
  | normal => exact ⟨h2.defers, key h1⟩
  | ret => exact ⟨h2.defers, key h1⟩
  | exit _ => exact h1.elim
  | goto _ => exact h1.elim
  | panic _ => exact h1.elim
  | outgrown => exact h1.elim

end Go.Proofs.Ytgfjbbbkploonaa
