/-
  The walk over plain data, and contracts of functions of the program and of its laws.
  Conditions: those that each theorem names.
-/
import Derived.Test.YtbccfiillleimaaGreatQ4
import Derived.Test.YtbccfiillleimaaGreatProg
import Derived.KernelRfl
import Derived.Test.YtbccfiillleimaaGreatQ1
import Derived.Sort.OwnSorted
import Derived.Sort.KeysCollected
import Derived.Sort.Walk0
import Derived.Laws.AppendOwn
import Derived.Shelf.Sort.Plain
import Derived.Shelf.Slices.In.SortNone
import Derived.Shelf.Slices.CompactS
import Derived.Lib.SliceRun
namespace Go.Proofs.YtbccfiillleimaaGreat
set_option linter.unusedSimpArgs false
set_option linter.unusedVariables false
set_option linter.unusedSectionVars false
set_option maxRecDepth 4000
open Go.RowKit
variable {P : Program}
theorem zax.append {w : World} {A : Nat -> Prop} : ∀ {d1 d2 : List (Bool × D)} {v1 v2 : List Value} {f1 f2 t1 t2 : List Nat}, zax w A d1 v1 f1 t1 -> zax w A d2 v2 f2 t2 -> zax w A (d1 ++ d2) (v1 ++ v2) (f1 ++ f2) (t1 ++ t2)
 | [], _, _, _, _, _, _, _, h, k => by obtain ⟨rfl, rfl, rfl⟩ := h; exact k
 | (true, d) :: ds, _, _, _, _, _, _, _, h, k => by
  obtain ⟨v, vs', g1, g2, s1, s2, rfl, rfl, rfl, h1, h2⟩ := h
  exact ⟨v, _, g1, _, s1, _, rfl, by rw [List.append_assoc], by rw [List.append_assoc], h1, zax.append h2 k⟩
 | (false, d) :: ds, _, _, _, _, _, _, _, h, k => by
  obtain ⟨v, vs', rfl, h1, h2⟩ := h
  exact ⟨v, _, rfl, h1, zax.append h2 k⟩
def zer : List (Bool × D) -> List (Bool × T)
 | [] => []
 | (b, .one t) :: ds => (b, t) :: zer ds
 | (b, .agg ts) :: ds => ts.map (fun t => (b, t)) ++ zer ds
def bxA (box : List (Bool × T)) : List (Bool × D) := box.map fun p => (p.1, .one p.2)
theorem zsk.ones {w : World} {A : Nat -> Prop} : ∀ {ts : List T} {vs : List Value} {fp tp : List Nat}, zsk w ts vs fp tp -> zax w A (bxA (ts.map fun t => (true, t))) vs fp tp
 | [], _, _, _, h => h
 | t :: ts, _, _, _, h => by
  obtain ⟨v, vs', f1, f2, t2, rfl, rfl, rfl, h1, h2⟩ := h
  exact ⟨v, vs', f1, f2, _, t2, rfl, rfl, rfl, ⟨h1, rfl⟩, zsk.ones h2⟩
theorem zad.ones {w : World} {A : Nat -> Prop} : ∀ {ts : List T} {vs : List Value}, zad w A ts vs -> zax w A (bxA (ts.map fun t => (false, t))) vs [] []
 | [], _, h => by unfold zad at h; exact ⟨h, rfl, rfl⟩
 | t :: ts, _, h => by
  unfold zad at h
  obtain ⟨v, vs', rfl, h1, h2⟩ := h
  exact ⟨v, vs', rfl, h1, zad.ones h2⟩
theorem zkk (a b : List (Bool × T)) : bxA (a ++ b) = bxA a ++ bxA b := List.map_append
theorem zak.cells1 {w : World} {A : Nat -> Prop} {t : T} {v : Value} (h : zak w A t v) : v.cells = #[v] := (zak.one h).2
theorem zax.flat {w : World} {A : Nat -> Prop} : ∀ {ds : List (Bool × D)} {vs : List Value} {fp tp : List Nat}, zax w A ds vs fp tp -> ∃ tp', zax w A (bxA (zer ds)) (vs.flatMap fun u => u.cells.toList) fp tp'
 | [], _, _, _, h => by obtain ⟨rfl, rfl, rfl⟩ := h; exact ⟨[], rfl, rfl, rfl⟩
 | (true, .one t) :: ds, _, _, _, h => by
  obtain ⟨v, vs', f1, f2, t1, t2, rfl, rfl, rfl, h1, h2⟩ := h
  obtain ⟨tp', h2⟩ := zax.flat h2
  have e : (v :: vs').flatMap (fun u => u.cells.toList) = v :: vs'.flatMap fun u => u.cells.toList := by
   have h1' : zat w t v f1 := h1.1
   simp [h1'.one]
  exact ⟨t1 ++ tp', v, _, f1, f2, t1, tp', e, rfl, rfl, h1, h2⟩
 | (false, .one t) :: ds, _, _, _, h => by
  obtain ⟨v, vs', rfl, h1, h2⟩ := h
  obtain ⟨tp', h2⟩ := zax.flat h2
  have e : (v :: vs').flatMap (fun u => u.cells.toList) = v :: vs'.flatMap fun u => u.cells.toList := by
   have h1' : zak w A t v := h1
   simp [h1'.cells1]
  exact ⟨tp', v, _, e, h1, h2⟩
 | (true, .agg ts) :: ds, _, _, _, h => by
  obtain ⟨v, vs', f1, f2, t1, t2, rfl, rfl, rfl, ⟨a, rfl, h1⟩, h2⟩ := h
  obtain ⟨tp', h2⟩ := zax.flat h2
  refine ⟨t1 ++ tp', ?_⟩
  show zax w A (bxA (ts.map (fun t => (true, t)) ++ zer ds)) (a ++ vs'.flatMap fun u => u.cells.toList) _ _
  rw [zkk]
  exact zax.append h1.ones h2
 | (false, .agg ts) :: ds, _, _, _, h => by
  obtain ⟨v, vs', rfl, ⟨a, rfl, h1⟩, h2⟩ := h
  obtain ⟨tp', h2⟩ := zax.flat h2
  refine ⟨[] ++ tp', ?_⟩
  show zax w A (bxA (ts.map (fun t => (false, t)) ++ zer ds)) (a ++ vs'.flatMap fun u => u.cells.toList) _ _
  rw [zkk]
  exact zax.append h1.ones h2
def mC1 (d j : Nat) : Bool × T -> C
 | (true, t) => owC d j t
 | (false, t) => t.toN
def mC (d : Nat) : Nat -> List (Bool × T) -> List C
 | _, [] => []
 | j, p :: ts => mC1 d j p :: mC d (j + 1) ts
def mE (d : Nat) : Nat -> List (Bool × T) -> (Nat -> Option Ev) -> (Nat -> Option Ev)
 | _, [], f => f
 | j, (true, t) :: ts, f => mE d (j + 1) ts (zuc d j f t)
 | j, (false, _) :: ts, f => mE d (j + 1) ts f
def mF (d : Nat) : Nat -> List (Bool × T) -> (Nat -> Option Ev) -> Prop
 | _, [], _ => True
 | j, (true, t) :: ts, f => qcv d j f t /\ mF d (j + 1) ts (zuc d j f t)
 | j, (false, _) :: ts, f => mF d (j + 1) ts f
def mD (d : Nat) : Nat -> List (Bool × D) -> List V
 | _, [] => []
 | j, (b, .one t) :: ds => .one (mC1 d j (b, t)) :: mD d (j + 1) ds
 | j, (b, .agg ts) :: ds => .agg (mC d j (ts.map fun t => (b, t))) :: mD d (j + ts.length) ds
theorem zvq (d : Nat) : ∀ (ts : List (Bool × T)) (j : Nat), (mC d j ts).length = ts.length
 | [], _ => rfl
 | t :: ts, j => by simp [mC, zvq d ts]
theorem zh5 (d : Nat) : ∀ (t1 t2 : List (Bool × T)) (j : Nat), mC d j (t1 ++ t2) = mC d j t1 ++ mC d (j + t1.length) t2
 | [], _, _ => by simp [mC]
 | t :: ts, t2, j => by simp only [List.cons_append, mC, zh5 d ts t2 (j + 1), List.length_cons]; rw [show j + 1 + ts.length = j + (ts.length + 1) by omega]
theorem zzw (d : Nat) : ∀ (ds : List (Bool × D)) (j : Nat), ∀ x ∈ mD d j ds, x.isTup = false
 | [], _, x, hx => by simp [mD] at hx
 | (_, .one t) :: ds, j, x, hx => by
  simp only [mD, List.mem_cons] at hx
  rcases hx with rfl | hx
  ·rfl
  ·exact zzw d ds _ x hx
 | (_, .agg ts) :: ds, j, x, hx => by
  simp only [mD, List.mem_cons] at hx
  rcases hx with rfl | hx
  ·rfl
  ·exact zzw d ds _ x hx
theorem New.mix {τ : St} {g : Gh} {NB : Nat -> Prop} {w' : World} {A : Nat -> Prop} (d : Nat) : ∀ (ts : List (Bool × T)) (vs : List Value) (fp tp : List Nat) (j : Nat) (ev' : Nat -> Option Ev) (g' : Gh) (F : List Nat), New τ g NB w' ev' g' F -> mF d j ts ev' -> zax w' A (bxA ts) vs fp tp -> fp.Nodup -> (∀ b ∈ fp, NB b /\ b ∉ F) →
  ∃ g'', New τ g NB w' (mE d j ts ev') g'' (F ++ fp) /\ (∀ e, ev' e ≠ none -> mE d j ts ev' e = ev' e /\ g''.ψ e = g'.ψ e) /\ ∀ (σ' : St) (w'' : World), σ'.ev = mE d j ts ev' -> (∀ t v, zak w' A t v -> zak w'' (zcq σ' g'' w'') t v) -> CRs σ' g'' w'' (mC d j ts) vs
 | [], vs, fp, tp, j, ev', g', F, hN, hf, ho, hd, hb => by
  obtain ⟨rfl, rfl, rfl⟩ := ho
  exact ⟨g', by simpa [mE] using hN, fun e _ => ⟨rfl, rfl⟩, fun _ _ _ _ => rfl⟩
 | (false, t) :: ts, vs, fp, tp, j, ev', g', F, hN, hf, ho, hd, hb => by
  obtain ⟨v, vs', rfl, h1, h2⟩ := ho
  obtain ⟨g'', k1, k2, k3⟩ := New.mix d ts vs' fp tp (j + 1) ev' g' F hN hf h2 hd hb
  exact ⟨g'', k1, k2, fun σ' w'' hσ hr => ⟨v, vs', rfl, zzs (hr t v h1), k3 σ' w'' hσ hr⟩⟩
 | (true, t) :: ts, vs, fp, tp, j, ev', g', F, hN, hf, ho, hd, hb => by
  obtain ⟨v, vs', f1, f2, t1, t2, rfl, rfl, rfl, ⟨h1, _⟩, h2⟩ := ho
  obtain ⟨hf1, hf2⟩ := hf
  obtain ⟨hd1, hd2, hd3⟩ := List.nodup_append.1 hd
  have h1 : zat w' t v f1 := h1
  by_cases hfl : t.flat = true
  ·have hz : f1 = [] /\ owC d j t = .t t /\ zuc d j ev' t = ev' /\ ∀ (σ' : St) (g'' : Gh) (w'' : World), CR σ' g'' w'' (.t t) v := by
    cases t <;> simp only [T.flat, Bool.false_eq_true] at hfl
    ·unfold zat at h1; exact ⟨h1.2.2.2, rfl, rfl, fun _ _ _ => by simp only [CR, zak]; exact ⟨h1.1, h1.2.1, h1.2.2.1⟩⟩
    ·unfold zat at h1; exact ⟨h1.2, rfl, rfl, fun _ _ _ => by simp only [CR, zak]; exact h1.1⟩
    ·unfold zat at h1; exact ⟨h1.2.2, rfl, rfl, fun _ _ _ => by simp only [CR, zak]; exact ⟨h1.1, h1.2.1⟩⟩
    ·unfold zat at h1; exact ⟨h1.2, rfl, rfl, fun _ _ _ => by simp only [CR, zak]; exact h1.1⟩
   obtain ⟨rfl, c2, c3, c4⟩ := hz
   rw [c3] at hf2
   obtain ⟨g'', k1, k2, k3⟩ := New.mix d ts vs' f2 t2 (j + 1) ev' g' F hN hf2 h2 hd2 (fun b hb' => hb b (by simp [hb']))
   refine ⟨g'', by simpa [mE, c3] using k1, fun e he => by simpa [mE, c3] using k2 e he, fun σ' w'' hσ hr => ⟨v, vs', rfl, ?_, k3 σ' w'' (by simpa [mE, c3] using hσ) hr⟩⟩
   show CR σ' g'' w'' (owC d j t) v
   rw [c2]; exact c4 _ _ _
  ·cases t <;> simp only [T.flat, Bool.false_eq_true, not_false_eq_true, not_true] at hfl
   ·rename_i sz rows
    have hi' : ev' (d * 32 + j) = none := hf1
    have hi : τ.ev (d * 32 + j) = none := by
     cases hx : τ.ev (d * 32 + j) with
     | none => rfl
     | some x => have := (hN.old (d * 32 + j) (by rw [hx]; simp)).1; rw [hi', hx] at this; cases this
    have hadd := hN.add hi hi' h1 (fun b hb' => (hb b (by simp [hb'])).1) hd1 (fun b hb' => (hb b (by simp [hb'])).2)
    obtain ⟨g'', k1, k2, k3⟩ := New.mix d ts vs' f2 t2 (j + 1) _ _ _ hadd hf2 h2 hd2 (fun b hb' => ⟨(hb b (by simp [hb'])).1, by
      have := (hb b (by simp [hb'])).2
      simp only [List.mem_append, not_or]
      exact ⟨this, fun hf => hd3 b hf b hb' rfl⟩⟩)
    refine ⟨g'', by simpa [mE, zuc] using k1, fun e he => ?_, fun σ' w'' hσ hr => ⟨v, vs', rfl, ?_, k3 σ' w'' hσ hr⟩⟩
    ·have hne : e ≠ d * 32 + j := fun h => he (h ▸ hi')
     have := k2 e (by rw [zan _ _ hne]; exact he)
     simp only [zan _ _ hne] at this
     exact this
    ·have := k2 (d * 32 + j) (by rw [zah]; simp)
     simp only [zah] at this
     exact ⟨by rw [this.2], _, by rw [hσ]; exact this.1, Nat.zero_le _⟩
   ·unfold zat at h1; exact h1.elim
   ·unfold zat at h1; exact h1.elim
   ·unfold zat at h1; exact h1.elim
   ·exact (show False from hf1).elim
theorem zv9 {σ : St} {g : Gh} {w w1 : World} {A : Nat -> Prop} (d : Nat) : ∀ {ds : List (Bool × D)} {us : List Value} {fp tp : List Nat} (j : Nat), zax w1 A ds us fp tp -> CRs σ g w (mC d j (zer ds)) (us.flatMap fun u => u.cells.toList) -> VRl σ g w (mD d j ds) us
 | [], us, fp, tp, j, h, _ => h.1
 | (true, .one t) :: ds, us, fp, tp, j, h, k => by
  obtain ⟨v, vs', f1, f2, t1, t2, rfl, rfl, rfl, h1, h2⟩ := h
  have hv : zat w1 t v f1 := h1.1
  simp only [List.flatMap_cons, hv.one, zer, mC] at k
  obtain ⟨u, us', e, k1, k2⟩ := k
  simp only [List.cons_append, List.nil_append, List.cons.injEq] at e
  obtain ⟨rfl, rfl⟩ := e
  exact ⟨v, vs', rfl, k1, zv9 d (j + 1) h2 k2⟩
 | (false, .one t) :: ds, us, fp, tp, j, h, k => by
  obtain ⟨v, vs', rfl, h1, h2⟩ := h
  have hv : zak w1 A t v := h1
  simp only [List.flatMap_cons, hv.cells1, zer, mC] at k
  obtain ⟨u, us', e, k1, k2⟩ := k
  simp only [List.cons_append, List.nil_append, List.cons.injEq] at e
  obtain ⟨rfl, rfl⟩ := e
  exact ⟨v, vs', rfl, k1, zv9 d (j + 1) h2 k2⟩
 | (true, .agg ts) :: ds, us, fp, tp, j, h, k => by
  obtain ⟨v, vs', f1, f2, t1, t2, rfl, rfl, rfl, ⟨x, rfl, h1⟩, h2⟩ := h
  simp only [List.flatMap_cons, Value.cells, zer, zh5] at k
  obtain ⟨v1, v2, e, k1, k2⟩ := k.split
  have hl : x.length = v1.length := by rw [k1.len, zvq, List.length_map]; exact zas.len (zas.of_g h1)
  obtain ⟨e1, e2⟩ := List.append_inj e hl
  subst e1 e2
  rw [List.length_map] at k2
  exact ⟨_, vs', rfl, ⟨x, rfl, k1⟩, zv9 d (j + ts.length) h2 k2⟩
 | (false, .agg ts) :: ds, us, fp, tp, j, h, k => by
  obtain ⟨v, vs', rfl, ⟨x, rfl, h1⟩, h2⟩ := h
  simp only [List.flatMap_cons, Value.cells, zer, zh5] at k
  obtain ⟨v1, v2, e, k1, k2⟩ := k.split
  have hl : x.length = v1.length := by rw [k1.len, zvq, List.length_map]; exact h1.len
  obtain ⟨e1, e2⟩ := List.append_inj e hl
  subst e1 e2
  rw [List.length_map] at k2
  exact ⟨_, vs', rfl, ⟨x, rfl, k1⟩, zv9 d (j + ts.length) h2 k2⟩
theorem zf8 {σ : St} {g : Gh} {w : World} {n0 : Nat -> Prop} {N : Nat} {a : Act} (hR : Rel n0 N σ g a w) {B : Sr -> List Nat} (hB : Fam w σ g B) {K : List Sr -> Prop} : ∀ {xs : List V} {ds : List (Bool × D)} {u : List Sr} {ps : List (Nat × Nat × Nat)} {vs : List Value}, gvA σ K u ps xs ds -> VRl σ g w xs vs →
  ∃ s, K (s.reverse ++ u) /\ (∃ tp, zax w (zcq σ g w) ds vs (bks B s) tp) /\ (∀ x ∈ s, σ.On x.1) /\ (u.Pairwise okP -> (s.reverse ++ u).Pairwise okP)
 | [], [], u, ps, vs, h, hv => ⟨[], h, ⟨[], hv, rfl, rfl⟩, by simp, fun h => h⟩
 | [], _ :: _, _, _, _, h, _ => h.elim
 | x :: xs, [], _, _, _, h, _ => by cases x <;> exact h.elim
 | x :: xs, (false, d) :: ds, u, ps, vs, h, hv => by
  obtain ⟨v, vs', rfl, h1, h2⟩ := hv
  unfold gvA at h
  obtain ⟨hr, h⟩ := h
  obtain ⟨s, k1, ⟨tp, k2⟩, k3, k4⟩ := zf8 hR hB h h2
  exact ⟨s, k1, ⟨tp, v, vs', rfl, rdV_fr hr h1, k2⟩, k3, k4⟩
 | .one c :: xs, (true, .one t) :: ds, u, ps, vs, h, hv => by
  obtain ⟨v, vs', rfl, h1, h2⟩ := hv
  unfold gvA at h
  obtain ⟨s, ps', tp, k1, k2, k3, k4⟩ := zco hR hB h (vs := [v]) ⟨v, [], rfl, h1, rfl⟩
  obtain ⟨s', j1, ⟨tp', j2⟩, j3, j4⟩ := zf8 hR hB k1 h2
  obtain ⟨v0, vs0, f1, f2, t2, e0, e1, rfl, q1, q2⟩ := k2
  cases e0
  obtain ⟨_, rfl, rfl⟩ := q2
  rw [List.append_nil] at e1
  refine ⟨s ++ s', by simpa using j1, ⟨zh0 t f1 ++ tp', v, vs', bks B s, bks B s', _, tp', rfl, by unfold bks; rw [List.flatMap_append], rfl, ⟨by rw [e1]; exact q1, by rw [e1]⟩, j2⟩, fun x hx => ?_, fun hu => by simpa using j4 (k4 hu)⟩
  rcases List.mem_append.1 hx with hx | hx
  ·exact k3 x hx
  ·exact j3 x hx
 | .agg cs :: xs, (true, .agg ts) :: ds, u, ps, vs, h, hv => by
  obtain ⟨v, vs', rfl, ⟨y, rfl, h1⟩, h2⟩ := hv
  unfold gvA at h
  obtain ⟨s, ps', tp, k1, k2, k3, k4⟩ := zco hR hB h h1
  obtain ⟨s', j1, ⟨tp', j2⟩, j3, j4⟩ := zf8 hR hB k1 h2
  refine ⟨s ++ s', by simpa using j1, ⟨tp ++ tp', _, vs', bks B s, bks B s', tp, tp', rfl, by unfold bks; rw [List.flatMap_append], rfl, ⟨y, rfl, k2⟩, j2⟩, fun x hx => ?_, fun hu => by simpa using j4 (k4 hu)⟩
  rcases List.mem_append.1 hx with hx | hx
  ·exact k3 x hx
  ·exact j3 x hx
 | .one _ :: _, (true, .agg _) :: _, _, _, _, h, _ => h.elim
 | .agg _ :: _, (true, .one _) :: _, _, _, _, h, _ => h.elim
 | .tup _ :: _, (true, d) :: _, _, _, _, h, _ => by cases d <;> exact h.elim
def XC (P : Program) (f : FuncId) (args res : List (Bool × D)) : Prop := za0 P f /\ ∀ (w : World) (vs : List Value) (fp tp : List Nat) (A : Nat -> Prop), zax w (fun k => (k < w.heap.size /\ k ∉ fp) /\ A k) args vs fp tp -> fp.Nodup →
 Calls P f ⟨vs⟩ w fun e w' => ∃ us fp' tp', e = .returned (zbw us) /\ zax w' (fun k => (k < w'.heap.size /\ k ∉ fp') /\ (A k \/ w.heap.size <= k \/ k ∈ fp)) res us fp' tp' /\ fp'.Nodup /\ (∀ b ∈ fp', b ∈ fp \/ w.heap.size <= b) /\ Bk (fun k => k < w.heap.size /\ k ∉ fp) w w'
def PM0 (P : Program) (rs : List ResultVar) (res : List (Bool × D)) (pl : List (Nat × Nat × Nat)) (σ : St) : Prop := zaq (zbu P σ rs) fun vs => gvA σ (fun _ => True) [] pl vs res
def PM (P : Program) (rs : List ResultVar) (res : List (Bool × D)) (e : Exit) (σ : St) : Prop := match e with
 | .normal => PM0 P rs res [] σ \/ ∃ pl, PM0 P rs res pl σ
 | .ret => PM0 P rs res [] σ \/ ∃ pl, PM0 P rs res pl σ
 | _ => False
theorem zqj {args : List (Bool × D)} {w : World} {vs : List Value} {fp tp : List Nat} {N : Nat} {g : Gh} {a : Act} {B : Nat -> Prop} (hv : zax w B args vs fp tp) (hR : Rel (fun b => b < w.heap.size /\ b ∉ fp) N (zds args) g a w)
  (ht : a.tmps = (⟨vs⟩ : Array Value) ++ Array.replicate (N - vs.length) undef) (hB : ∀ b, B b -> (b < w.heap.size /\ b ∉ fp) /\ g.A0 b) : Rel (fun b => b < w.heap.size /\ b ∉ fp) N (zc3 args) g a w := by
 have hm : Mv (zds args) (zc3 args) g g w w := Mv.of_eq g w rfl rfl
 refine hR.slots_of (σ' := zc3 args) rfl rfl hR.defers hR.size fun i => ?_
 refine (Mv.of_eq (σ := zc3 args) (σ' := zds args) g w rfl rfl).vr (σ := zc3 args) ?_
 have hi := zig args 0 i
 rw [Nat.zero_add] at hi
 show VR _ _ _ (zgb 0 args i) _
 rw [hi]
 cases hd : args[i]? with
 | none => trivial
 | some p =>
  obtain ⟨b, d⟩ := p
  cases b with
  | true =>
   have h0 := hm.vr (hR.slots i)
   have hj := zh4 args 0 i
   rw [Nat.zero_add, hd] at hj
   have h0' : VR (zc3 args) g w (zga 0 args i) (a.tmps.getD i (g.R0.ξ i)) := h0
   rw [hj] at h0'
   exact h0'
  | false =>
   obtain ⟨v, hv1, hv2⟩ := zax.atR hv i d hd
   have hlt : i < vs.length := (List.getElem?_eq_some_iff.1 hv1).1
   have e : a.tmps.getD i (g.R0.ξ i) = v := by
    rw [ht, Array.getD_eq_getD_getElem?, Array.getElem?_append_left (by simpa using hlt)]
    simp [hv1]
   rw [e]
   exact hm.vr (zqt (fun b hb => hR.frOld (hB b hb).1 (hB b hb).1.1 (hB b hb).2) hv2)
theorem XC_of {f : FuncId} {fn : Func} {c : Code} {args res : List (Bool × D)} (hc : za0 P f) (hf : P.funcs[f]? = some fn) (hb : fn.body = some c) (hd : zbb fn.ntmps c = true) (hN : args.length <= fn.ntmps) (hs : zbz args)
  (h : ex P c [] (PM P fn.results.toList res) (zc3 args)) : XC P f args res := by
 refine ⟨hc, fun w vs fp tp A hv hn => ?_⟩
 refine calls_of_wp hf hb ?_
 have hv' : zax w (fun b => b < w.heap.size /\ A b /\ b ∉ fp) args vs fp tp := zax.keepA (fun b hb => ⟨hb.1.1, hb.2, hb.1.2⟩) hv
 obtain ⟨g, hg, hR⟩ := Rel.start (A0 := fun b => A b \/ w.heap.size <= b \/ b ∈ fp) (R0 := RP.of fun b => b ∈ fp \/ w.heap.size <= b) (N := fn.ntmps) hv' hn hs hN (fun _ h => Or.inl h) (fun b hb => ⟨Or.inr (Or.inr hb), Or.inl hb⟩) (fun b hb => by
  by_cases hlt : b < w.heap.size
  ·have hm : b ∈ fp := Classical.byContradiction fun h => hb ⟨hlt, h⟩
   exact ⟨Or.inr (Or.inr hm), Or.inl hm⟩
  ·exact ⟨Or.inr (Or.inl (by omega)), Or.inr (by omega)⟩)
 have hR0 := zqj hv' hR rfl (fun b hb => ⟨⟨hb.1, hb.2.2⟩, by rw [(Prod.mk.inj hg).1]; exact Or.inl hb.2.1⟩)
 refine wp_mono (zbc (w0 := w) c (zc3 args) _ hd h g _ w hR0 (fun k hk => hk.1) (Bk.refl _ _) hg) fun e a' w' hq => ?_
 obtain ⟨σ', g', h1, h2, h3, h4, h5⟩ := hq
 have key : (∃ pl, PM0 P fn.results.toList res pl σ') -> ∃ v, (results fn a'.tmps).run P w' = .ok v w' /\ ∃ us fp' tp', Ending.returned v = .returned (zbw us) /\ zax w' (fun k => (k < w'.heap.size /\ k ∉ fp') /\ (A k \/ w.heap.size <= k \/ k ∈ fp)) res us fp' tp' /\ fp'.Nodup /\ (∀ b ∈ fp', b ∈ fp \/ w.heap.size <= b) /\ Bk (fun k => k < w.heap.size /\ k ∉ fp) w w' := by
  rintro ⟨pl, hk⟩
  obtain ⟨vs, hvs, hk⟩ := zap hk
  obtain ⟨us, r1, r2⟩ := zbn h2 fn hvs
  obtain ⟨B, hB⟩ := h2.fam
  obtain ⟨s, k1, ⟨tp', k2⟩, k3, k4⟩ := zf8 h2 hB hk r2
  rw [List.append_nil] at k4
  have hsp : s.Pairwise okP := (List.pairwise_reverse.1 (k4 List.Pairwise.nil)).imp fun h => h.symm
  have hin : ∀ b ∈ bks B s, ∃ e, σ'.On e /\ b ∈ g'.φ e := fun b hb => by
   obtain ⟨x, hx, hm⟩ := List.mem_flatMap.1 hb
   exact ⟨x.1, k3 x hx, hB.sub x.1 x.2 b (k3 x hx) hm⟩
  have hA : ∀ b, zcq σ' g' w' b -> (b < w'.heap.size /\ b ∉ bks B s) /\ (A b \/ w.heap.size <= b \/ b ∈ fp) := fun b hb => by
   refine ⟨⟨hb.1.2.2.1, fun hm => ?_⟩, ?_⟩
   ·obtain ⟨e, ho, hm⟩ := hin b hm
    exact hb.2 e ho hm
   ·have := hb.1.2.2.2
    rw [(Prod.mk.inj h5).1] at this
    exact this
  refine ⟨_, r1, us, bks B s, tp', rfl, zax.keepA hA k2, zey h2 hB k3 hsp, fun b hb => ?_, h4⟩
  obtain ⟨e, ho, hm⟩ := hin b hb
  have := (h2.ebase e ho b hm).2
  rw [(Prod.mk.inj h5).2] at this
  exact this
 have key' : ∀ {Y : Prop}, (PM0 P fn.results.toList res [] σ' \/ ∃ pl, PM0 P fn.results.toList res pl σ') -> ((∃ pl, PM0 P fn.results.toList res pl σ') -> Y) -> Y := fun h k => h.elim (fun h => k ⟨[], h⟩) k
 cases e with
 | normal => exact ⟨h2.defers, key' h1 key⟩
 | ret => exact ⟨h2.defers, key' h1 key⟩
 | exit _ => exact h1.elim
 | goto _ => exact h1.elim
 | panic _ => exact h1.elim
 | outgrown => exact h1.elim
def St.callX (σ : St) (d : Nat) (res : List (Bool × D)) : St := { sl := upd σ.sl d (zom (mD d 0 res)), bx := σ.bx, ev := mE d 0 (zer res) σ.ev }
theorem zyr {o : Oper} {σ τ : St} {x : Operand} {asx : Array Operand} {ts : Array TypeId} {f : FuncId} {cvs : List V} {d : Nat} {ds res : List (Bool × D)} {ps : List (Nat × Nat × Nat)} (ho : o.op = .call ⟨.value x, asx, ts⟩) (hd : o.dst = some d)
  (h : XC P f ds res) (hc : zav (σ.get P 0 x) = some (f, cvs)) (hK : Kept σ τ) (hv : gvA σ (fun u => ∀ s ∈ u, τ.ev s.1 = none) [] ps (σ.gets P asx ts ++ cvs) ds) (hf : mF d 0 (zer res) τ.ev) : zaf P o σ (τ.callX d res) := by
 intro n0 N g a w hR hn hdN
 obtain ⟨vs, h1, h2⟩ := zdq hR ho hc h.1
 unfold Oper.wp
 rw [h1]
 obtain ⟨B, hB⟩ := hR.fam
 obtain ⟨s, k1, ⟨tp, k2⟩, k3, k4⟩ := zf8 hR hB hv h2
 rw [List.append_nil] at k1 k4
 have hsp : s.Pairwise okP := (List.pairwise_reverse.1 (k4 List.Pairwise.nil)).imp fun h => h.symm
 have hnd := zey hR hB k3 hsp
 have hfp : ∀ b ∈ bks B s, ∃ e, σ.On e /\ τ.ev e = none /\ b ∈ g.φ e := fun b hb => by
  obtain ⟨x, hx, hm⟩ := List.mem_flatMap.1 hb
  exact ⟨x.1, k3 x hx, k1 x (List.mem_reverse.2 hx), hB.sub x.1 x.2 b (k3 x hx) hm⟩
 have hfn : ∀ b, zcq σ g w b -> b ∉ bks B s := fun b hb hm => by obtain ⟨e, h1, _, h3⟩ := hfp b hm; exact hb.2 e h1 h3
 refine (h.2 w vs (bks B s) tp (zcq σ g w) (zax.keepA (fun b hb => ⟨⟨hb.1.2.2.1, hfn b hb⟩, hb⟩) k2) hnd).mono ?_
 rintro e w' ⟨us, fp', tp', rfl, o1, o2, o3, hbk⟩
 obtain ⟨tp2, o1'⟩ := o1.flat
 obtain ⟨g', q1, q2, q3⟩ := New.mix (τ := τ) (g := g) (NB := fun b => b ∈ bks B s \/ w.heap.size <= b) (w' := w') d (zer res) _ fp' tp2 0 τ.ev g [] (New.refl _ _ _ _ hR.slc) hf o1' o2 (fun b hb' => ⟨o3 b hb', by simp⟩)
 have hR' := hR.given hn hK hfp hbk q1
 have hBk : Bk n0 w w' := ⟨hbk.os, hbk.tape, hbk.output, hbk.size, fun k hk => hbk.block k ⟨hn k hk, fun hm => by
  obtain ⟨e, h1, _, h3⟩ := hfp k hm
  exact hR.etop e h1 k h3 hk⟩⟩
 have hfree : ∀ k, ((k < w'.heap.size /\ k ∉ fp') /\ (zcq σ g w k \/ w.heap.size <= k \/ k ∈ bks B s)) -> zcq ⟨τ.sl, τ.bx, mE d 0 (zer res) τ.ev⟩ g' w' k := fun k hk => by
  have hOnσ : ∀ e, τ.On e -> σ.On e := fun e ⟨x, hx, ho⟩ => ⟨x, (hK.ev e x hx).1, ho⟩
  have hno : ∀ e, St.On ⟨τ.sl, τ.bx, mE d 0 (zer res) τ.ev⟩ e -> k ∉ g'.φ e := fun e ho' hm => by
   by_cases hee : τ.ev e = none
   ·obtain ⟨x, hx, _⟩ := ho'
    have := ((q1.new e x hee hx).2.2.1 k hm).2
    rw [List.nil_append] at this
    exact hk.1.2 this
   ·rw [(q1.old e hee).2.2] at hm
    obtain ⟨x, hx, hon⟩ := ho'
    have ho2 : τ.On e := ⟨x, (q1.old e hee).1.symm.trans hx, hon⟩
    rcases hk.2 with h | h | h
    ·exact h.2 e (hOnσ e ho2) hm
    ·obtain ⟨y, hy, hyo⟩ := hOnσ e ho2
     have := (hR.evs e y hy hyo).lt k hm; omega
    ·obtain ⟨e', h1, h2, h3⟩ := hfp k h
     refine hR.apart e e' (hOnσ e ho2) h1 (fun ee => ?_) k hm h3
     subst ee
     obtain ⟨y, hy, _⟩ := ho2
     rw [h2] at hy; cases hy
  have hbne : ∀ b, τ.bx b ≠ none -> σ.bx b ≠ none := fun b hb => by
   obtain ⟨cs, hcs⟩ := Option.ne_none_iff_exists'.1 hb
   rw [(hK.bx b cs hcs).1]; simp
  refine ⟨⟨fun j hj e => ?_, fun e x hx hon hh => hno e ⟨x, hx, hon⟩ (List.mem_of_mem_head? hh), hk.1.1, ?_⟩, hno⟩
  ·have hj' := hbne j hj
   rw [q1.β] at e
   rcases hk.2 with h | h | h
   ·exact h.1.1 j hj' e
   ·have := hR.lt hj'; omega
   ·obtain ⟨e', h1, _, h3⟩ := hfp k h
    exact hR.ebx e' j h1 hj' (e ▸ h3)
  ·rw [q1.A0]
   rcases hk.2 with h | h | h
   ·exact h.1.2.2.2
   ·exact (hR.anew k (hn.new h)).1
   ·obtain ⟨e', h1, _, h3⟩ := hfp k h
    exact (hR.ebase e' h1 k h3).1
 refine ⟨g', ?_, hBk, q1.A0, q1.R0⟩
 have hp := hR'.put (some d) (x := zom (mD d 0 res)) (v := zbw us) (zfu (zv9 d 0 o1 (q3 _ _ rfl fun t v h => zak.keep (fun _ _ => rfl) hfree t v h)) (zzw d res 0)) (fun i hi => by cases hi; exact hdN d hd)
 rw [hd]
 exact hp
section
variable {ks : List Fr} {Q : Exit -> St -> Prop} {σ : St} {ops : Array Oper} {os : List Oper} {ty : TypeId} {ps : String} {af : Array Edge} {d : Nat} {x : Operand} {asx : Array Operand} {ts : Array TypeId} {f : FuncId} {ds res : List (Bool × D)}
theorem callX (la l : List (Nat × V)) (ba bl : List (Nat × List C)) (ea el : List (Nat × Ev)) (pl : List (Nat × Nat × Nat)) (h : XC P f ds res)
  (hw : wkL σ (hd (la ++ l) (ba ++ bl) (ea ++ el)) (la ++ l) /\ wkB σ (hd (la ++ l) (ba ++ bl) (ea ++ el)) (ba ++ bl) /\ wkE σ (ea ++ el))
  (hk : zc4 l la /\ zc4 bl ba /\ zc4 el ea /\ okL (hd l bl el) l /\ okB (hd l bl el) bl /\ okE el)
  (hp : zaq (zav ((hd (la ++ l) (ba ++ bl) (ea ++ el)).get P 0 x)) fun p => p.1 = f /\ gvA (hd (la ++ l) (ba ++ bl) (ea ++ el)) (zpg el) [] pl ((hd (la ++ l) (ba ++ bl) (ea ++ el)).gets P asx ts ++ p.2) ds) (hf : mF d 0 (zer res) (hd l bl el).ev)
  (k : exo P ops os ks Q ((hd l bl el).callX d res)) : exo P ops (⟨some d, .call ⟨.value x, asx, ts⟩, ty, ps, af, none⟩ :: os) ks Q σ := by
 obtain ⟨⟨f', cvs⟩, h1, rfl, h2⟩ := zap hp
 obtain ⟨k1, k2, k3, k4, k5, k6⟩ := hk
 refine zct rfl rfl (zaf.pre (zac hw) (zyr (P := P) (o := ⟨some d, .call ⟨.value x, asx, ts⟩, ty, ps, af, none⟩) rfl rfl h h1 (τ := hd l bl el) ⟨fun i => ?_, fun b cs hb => ⟨zif k2 b cs hb, zpz k5 b cs hb⟩, fun e x he => ⟨zif k3 e x he, zov k6 e x he⟩⟩ (zgj (fun u hu => zi8 hu) h2) hf)) k
 rcases zlr k1 i with h | h
 ·exact Or.inl h
 ·exact Or.inr ⟨h, zp0 k4 i⟩
theorem zrf (L A : List Nat) (pl : List (Nat × Nat × Nat)) (h : XC P f ds res)
  (hw : wkL σ (hd (σ.lL A ++ σ.lL L) (σ.lB (dif (σ.KB L) (σ.KB A)) ++ σ.lB (σ.KB L)) (σ.lE (dif (σ.KE L) (σ.KE A)) ++ σ.lE (σ.KE L))) (σ.lL A ++ σ.lL L) /\ wkB σ (hd (σ.lL A ++ σ.lL L) (σ.lB (dif (σ.KB L) (σ.KB A)) ++ σ.lB (σ.KB L)) (σ.lE (dif (σ.KE L) (σ.KE A)) ++ σ.lE (σ.KE L))) (σ.lB (dif (σ.KB L) (σ.KB A)) ++ σ.lB (σ.KB L)) /\ wkE σ (σ.lE (dif (σ.KE L) (σ.KE A)) ++ σ.lE (σ.KE L)))
  (hk : zc4 (σ.lL L) (σ.lL A) /\ zc4 (σ.lB (σ.KB L)) (σ.lB (dif (σ.KB L) (σ.KB A))) /\ zc4 (σ.lE (σ.KE L)) (σ.lE (dif (σ.KE L) (σ.KE A))) /\ okL (σ.hL L) (σ.lL L) /\ okB (σ.hL L) (σ.lB (σ.KB L)) /\ okE (σ.lE (σ.KE L)))
  (hp : zaq (zav ((hd (σ.lL A ++ σ.lL L) (σ.lB (dif (σ.KB L) (σ.KB A)) ++ σ.lB (σ.KB L)) (σ.lE (dif (σ.KE L) (σ.KE A)) ++ σ.lE (σ.KE L))).get P 0 x)) fun p => p.1 = f /\ gvA (hd (σ.lL A ++ σ.lL L) (σ.lB (dif (σ.KB L) (σ.KB A)) ++ σ.lB (σ.KB L)) (σ.lE (dif (σ.KE L) (σ.KE A)) ++ σ.lE (σ.KE L))) (zpg (σ.lE (σ.KE L))) [] pl ((hd (σ.lL A ++ σ.lL L) (σ.lB (dif (σ.KB L) (σ.KB A)) ++ σ.lB (σ.KB L)) (σ.lE (dif (σ.KE L) (σ.KE A)) ++ σ.lE (σ.KE L))).gets P asx ts ++ p.2) ds)
  (hf : mF d 0 (zer res) (σ.hL L).ev) (k : exo P ops os ks Q ((σ.hL L).callX d res)) : exo P ops (⟨some d, .call ⟨.value x, asx, ts⟩, ty, ps, af, none⟩ :: os) ks Q σ :=
 callX (σ.lL A) (σ.lL L) _ _ _ _ pl h hw hk hp hf k
end
attribute [go_sem] zer mC1 mC mE mF mD St.callX PM PM0 zuc qcv
end Go.Proofs.YtbccfiillleimaaGreat
namespace Go.Proofs.YtbccfiillleimaaGreat
set_option linter.unusedSimpArgs false
set_option linter.unusedVariables false
set_option linter.unusedSectionVars false
set_option maxRecDepth 4000
open Go.RowKit
variable {P : Program}
def C.fz (e : Nat) (x : Ev) : C -> C
 | .ow e' g => if e' = e then (if g = x.gen then .rn (.sl x.sz x.rows) else .any) else .ow e' g
 | .eo e' g sz i o => if e' = e then .any else .eo e' g sz i o
 | c => c
def fzS (f : Nat -> V) (e : Nat) (x : Ev) : Nat -> V := fun i => (f i).map (C.fz e x)
def fzB (f : Nat -> Option (List C)) (e : Nat) (x : Ev) : Nat -> Option (List C) := fun b => (f b).map fun cs => cs.map (C.fz e x)
def fzE (f : Nat -> Option Ev) (e : Nat) : Nat -> Option Ev := fun k => if k = e then none else f k
theorem fzS_at (f : Nat -> V) (e : Nat) (x : Ev) (i : Nat) : fzS f e x i = (f i).map (C.fz e x) := rfl
theorem zsc (f : Nat -> Option (List C)) (e : Nat) (x : Ev) (b : Nat) : fzB f e x b = (f b).map fun cs => cs.map (C.fz e x) := rfl
theorem fzE_at (f : Nat -> Option Ev) (e k : Nat) : fzE f e k = if k = e then none else f k := rfl
def St.fz (σ : St) (e : Nat) (x : Ev) : St := ⟨fzS σ.sl e x, fzB σ.bx e x, fzE σ.ev e⟩
theorem fz_wk {σ : St} {e : Nat} {x : Ev} (hx : σ.ev e = some x) (hd : x.deep = true) (ho : x.on = true) : Wk σ (σ.fz e x) := by
 intro n0 N g a w h
 have hev : ∀ e', e' ≠ e -> (σ.fz e x).ev e' = σ.ev e' := fun e' he => by show (if e' = e then none else σ.ev e') = _; rw [if_neg he]
 have hee : (σ.fz e x).ev e = none := by show (if e = e then none else σ.ev e) = _; rw [if_pos rfl]
 have hsome : ∀ e' z, (σ.fz e x).ev e' = some z -> e' ≠ e /\ σ.ev e' = some z := fun e' z hz => by
  by_cases he : e' = e
  ·subst he; rw [hee] at hz; cases hz
  ·exact ⟨he, by rw [<- hev e' he]; exact hz⟩
 have hon : ∀ e', (σ.fz e x).On e' -> e' ≠ e /\ σ.On e' := fun e' ⟨z, hz, h1⟩ => ⟨(hsome e' z hz).1, z, (hsome e' z hz).2, h1⟩
 have hbx : ∀ b, (σ.fz e x).bx b ≠ none ↔ σ.bx b ≠ none := fun b => by unfold St.fz; simp [zsc]
 have hOn : σ.On e := ⟨x, hx, ho⟩
 have hf : ∀ b, Fix σ g w b -> Fix (σ.fz e x) g w b := fun b hf => ⟨fun k hk => hf.1 k ((hbx k).1 hk), fun e' z hz h1 => hf.2.1 e' z (hsome e' z hz).2 h1, hf.2.2⟩
 have hfr : ∀ b, zcq σ g w b -> zcq (σ.fz e x) g w b := fun b hb => ⟨hf b hb.1, fun e' h' => hb.2 e' (hon e' h').2⟩
 have hgone : ∀ b ∈ g.φ e, b < w.heap.size -> zcq (σ.fz e x) g w b := fun b hb hl => by
  have hne : ∀ e', (σ.fz e x).On e' -> b ∉ g.φ e' := fun e' he' hm => h.apart e e' hOn (hon e' he').2 (Ne.symm (hon e' he').1) b hb hm
  exact ⟨⟨fun j hj hjb => h.ebx e j hOn ((hbx j).1 hj) (by rw [hjb]; exact hb), fun e' z hz h1 hh => hne e' ⟨z, hz, h1⟩ (List.mem_of_mem_head? hh), hl, (h.ebase e hOn b hb).1⟩, hne⟩
 have hhas : ∀ e' n, e' ≠ e -> σ.has e' n -> (σ.fz e x).has e' n := fun e' n he ⟨z, hz, h1⟩ => ⟨z, by rw [hev e' he]; exact hz, h1⟩
 have cr : ∀ c v, CR σ g w c v -> CR (σ.fz e x) g w (c.fz e x) v := fun c v hc => by
  cases c with
  | t y => exact zak.keep (fun _ _ => rfl) hf y v hc
  | nl s => exact hc
  | ow e' n =>
   show CR _ _ _ (if e' = e then (if n = x.gen then .rn (.sl x.sz x.rows) else .any) else .ow e' n) v
   by_cases he : e' = e
   ·subst he
    rw [if_pos rfl]
    by_cases hn : n = x.gen
    ·rw [if_pos hn]
     subst hn
     obtain ⟨ao, cap, e1, e2, e3, e4⟩ := h.evs _ x hx ho
     rw [<- hc.1] at e1
     show zak _ _ _ _
     unfold zak
     refine ⟨ao, cap, e1, e2, e3, ?_⟩
     rcases e4 with ⟨_, _, e4, _⟩ | ⟨b, cells, ty, fps, k1, k2, k3, k4, k5⟩
     ·exact Or.inl e4
     ·rw [if_pos hd] at k5
      have hl : ∀ b' ∈ fps, b' < w.heap.size := zag.lt cells 0 x.sz x.rows fps k5
      exact Or.inr ⟨b, 0, k1, hgone b (by rw [k2]; simp) (Array.getElem?_eq_some_iff.1 k3).1, zag.rep b cells ty k3 0 x.sz x.rows fps k5 fun b' hb' => hgone b' (by rw [k2]; simp [hb']) (hl b' hb')⟩
    ·rw [if_neg hn]; trivial
   ·rw [if_neg he]; exact ⟨hc.1, hhas e' n he hc.2⟩
  | bx b o => exact ⟨hc.1, (hbx b).2 hc.2⟩
  | el cs o => obtain ⟨b, q, h1, h2, h3⟩ := hc; exact ⟨b, q, h1, hf b h2, za5.keep (fun _ _ => rfl) hf b rfl q cs h3⟩
  | eo e' s sz i o =>
   show CR _ _ _ (if e' = e then .any else .eo e' s sz i o) v
   by_cases he : e' = e
   ·rw [if_pos he]; trivial
   ·rw [if_neg he]; obtain ⟨b, n, c, h1, h2, h3, h4⟩ := hc; exact ⟨b, n, c, h1, h2, h3, hhas e' s he h4⟩
  | fn f caps => exact ⟨hc.1, fun b hb => (hbx b).2 (hc.2 b hb)⟩
  | cv u => exact hc
  | any => trivial
  | rn y => exact zak.keep (fun _ _ => rfl) hfr y v hc
  | er cs o => obtain ⟨b, q, h1, h2, h3⟩ := hc; exact ⟨b, q, h1, hfr b h2, za5.keep (fun _ _ => rfl) hfr b rfl q cs h3⟩
 refine ⟨g, ⟨h.defers, h.size, h.anew, fun i => VR.map cr (h.slots i), fun b cs hb => ?_, fun b hb => h.base b ((hbx b).1 hb), fun b b' h1 h2 => h.inj b b' ((hbx b).1 h1) ((hbx b').1 h2), fun e' z hz h1 => ?_, fun e' z hz h1 => ?_, h.slc, fun e' h1 => h.ebase e' (hon e' h1).2, fun e' h1 => h.etop e' (hon e' h1).2, fun e' h1 => h.nodup e' (hon e' h1).2, fun e1 e2 h1 h2 => h.apart e1 e2 (hon e1 h1).2 (hon e2 h2).2, fun e' k h1 h2 => h.ebx e' k (hon e' h1).2 ((hbx k).1 h2)⟩, rfl, rfl⟩
 ·cases hc : σ.bx b with
  | none => unfold St.fz at hb; simp only [zsc, hc, Option.map_none] at hb; cases hb
  | some cs0 =>
   unfold St.fz at hb
   simp only [zsc, hc, Option.map_some, Option.some.injEq] at hb
   subst hb
   obtain ⟨vs, ty, k1, k2⟩ := h.boxes b cs0 hc
   exact ⟨vs, ty, k1, CRs.map cr k2⟩
 ·obtain ⟨ao, cap, e1, e2, e3, e4⟩ := h.evs e' z (hsome e' z hz).2 h1
  refine ⟨ao, cap, e1, e2, e3, ?_⟩
  rcases e4 with e4 | ⟨b, cells, ty, fps, k1, k2, k3, k4, k5⟩
  ·exact Or.inl e4
  ·refine Or.inr ⟨b, cells, ty, fps, k1, k2, k3, k4, ?_⟩
   split at k5
   ·rw [if_pos ‹_›]; exact k5
   ·rw [if_neg ‹_›]; exact ⟨k5.1, zal.keep (fun _ _ => rfl) hf b rfl 0 z.sz z.rows k5.2⟩
 ·exact ⟨zak.keep (fun _ _ => rfl) hf _ _ (h.offs e' z (hsome e' z hz).2 h1).1, (h.offs e' z (hsome e' z hz).2 h1).2⟩
theorem zcv.pre {o : Oper} {σ σ' : St} {K : St -> Prop} (h : Wk σ σ') (k : zcv P o σ' K) : zcv P o σ K := fun n0 N g a w hR hn hd => by
 obtain ⟨g1, h1, h2, h3⟩ := h n0 N g a w hR
 have := k n0 N g1 a w h1 hn hd
 unfold Oper.wp at this ⊢
 revert this
 cases (execOp a.eval o).run P w <;> intro this <;> try exact this
 all_goals (revert this; rw [h2, h3]; exact id)
theorem zdt.pre {id : Nat} {ops : Array Oper} {σ σ' : St} {K : St -> Prop} (h : Wk σ σ') (k : zdt P id ops σ' K) : zdt P id ops σ K := fun n0 N g a w hR hn hd => by
 obtain ⟨g1, h1, h2, h3⟩ := h n0 N g a w hR
 have := k n0 N g1 a w h1 hn hd
 rw [h2, h3] at this
 exact this
section
variable {ks : List Fr} {Q : Exit -> St -> Prop} {σ : St} {ops : Array Oper} {os : List Oper} {o : Oper}
theorem qe8 {σ' : St} (h : Wk σ σ') (hg : o.guard = none) (hs : zu9 o.op = true) (k : exo P ops (o :: os) ks Q σ') : exo P ops (o :: os) ks Q σ := by
 unfold exo zbf exG at k ⊢
 rw [hg] at k ⊢
 simp only at k ⊢
 unfold zb4 zol at k ⊢
 rw [if_pos (by rw [hs]; rfl)] at k ⊢
 exact k.pre h
theorem frzO (e : Nat) (hg : o.guard = none) (hs : zu9 o.op = true) (k : zaq (σ.ev e) fun x => x.deep = true /\ x.on = true /\ exo P ops (o :: os) ks Q (σ.fz e x)) : exo P ops (o :: os) ks Q σ := by
 obtain ⟨x, hx, h1, h2, h3⟩ := zap k
 exact qe8 (fz_wk hx h1 h2) hg hs h3
theorem frzD (e : Nat) {i : Nat} (k : zaq (σ.ev e) fun x => x.deep = true /\ x.on = true /\ ex P (.region i ops true) ks Q (σ.fz e x)) : ex P (.region i ops true) ks Q σ := by
 obtain ⟨x, hx, h1, h2, h3⟩ := zap k
 exact zdt.pre (fz_wk hx h1 h2) h3
end
attribute [go_sem] C.fz St.fz V.map fzS_at zsc fzE_at
end Go.Proofs.YtbccfiillleimaaGreat
namespace Go.Proofs.YtbccfiillleimaaGreat
theorem ag_3 : zne Tryz.prog 3 = some false := by kernel_rfl
theorem sz_3 : zbj Tryz.prog 3 = some 1 := by kernel_rfl
theorem in_3 : zz1 Tryz.prog 3 = some .i64 := by kernel_rfl
theorem ze_3 : zc8 Tryz.prog 3 = some [.t (.int .i64 0)] := by kernel_rfl
theorem bo_4 : zxg Tryz.prog 4 = true := by kernel_rfl
theorem sz_5 : zbj Tryz.prog 5 = some 1 := by kernel_rfl
theorem in_5 : zz1 Tryz.prog 5 = some .u8 := by kernel_rfl
theorem ze_5 : zc8 Tryz.prog 5 = some [.t (.int .u8 0)] := by kernel_rfl
theorem ag_9 : zne Tryz.prog 9 = some false := by kernel_rfl
theorem sz_9 : zbj Tryz.prog 9 = some 1 := by kernel_rfl
theorem in_9 : zz1 Tryz.prog 9 = none := by kernel_rfl
theorem st_9 : zz2 Tryz.prog 9 = true := by kernel_rfl
theorem ze_9 : zc8 Tryz.prog 9 = some [.t (.str [])] := by kernel_rfl
theorem ag_22 : zne Tryz.prog 22 = some false := by kernel_rfl
theorem sz_22 : zbj Tryz.prog 22 = some 1 := by kernel_rfl
theorem el_22 : elT Tryz.prog 22 = some 24 := by kernel_rfl
theorem ag_24 : zne Tryz.prog 24 = some true := by kernel_rfl
theorem sz_24 : zbj Tryz.prog 24 = some 2 := by kernel_rfl
theorem qgl : zia Tryz.prog 24 0 = some (0, 9) := by kernel_rfl
theorem qfc : zia Tryz.prog 24 1 = some (1, 22) := by kernel_rfl
theorem ag_25 : zne Tryz.prog 25 = some false := by kernel_rfl
theorem sz_25 : zbj Tryz.prog 25 = some 1 := by kernel_rfl
theorem el_25 : elT Tryz.prog 25 = some 27 := by kernel_rfl
theorem ag_27 : zne Tryz.prog 27 = some true := by kernel_rfl
theorem sz_27 : zbj Tryz.prog 27 = some 5 := by kernel_rfl
theorem qf0 : zia Tryz.prog 27 0 = some (0, 3) := by kernel_rfl
theorem qg7 : zia Tryz.prog 27 1 = some (1, 24) := by kernel_rfl
theorem qg2 : zia Tryz.prog 27 2 = some (3, 9) := by kernel_rfl
theorem qhq : zia Tryz.prog 27 3 = some (4, 25) := by kernel_rfl
theorem el_28 : elT Tryz.prog 28 = some 22 := by kernel_rfl
theorem nl_31 : nlT Tryz.prog 31 = 2 := by kernel_rfl
theorem ag_31 : zne Tryz.prog 31 = some false := by kernel_rfl
theorem sz_31 : zbj Tryz.prog 31 = some 1 := by kernel_rfl
theorem el_31 : elT Tryz.prog 31 = some 33 := by kernel_rfl
theorem zr6 : zde Tryz.prog 33 = some 40 := by kernel_rfl
theorem ze_31 : zc8 Tryz.prog 31 = some [.nl 2] := by kernel_rfl
theorem ag_33 : zne Tryz.prog 33 = some true := by kernel_rfl
theorem sz_33 : zbj Tryz.prog 33 = some 2 := by kernel_rfl
theorem ze_33 : zc8 Tryz.prog 33 = some [.t (.str []), .nl 2] := by kernel_rfl
theorem pl_33 : qd0 Tryz.prog 33 = some [(0, 1), (1, 1)] := by kernel_rfl
theorem qf5 : zia Tryz.prog 33 0 = some (0, 9) := by kernel_rfl
theorem qe5 : zia Tryz.prog 33 1 = some (1, 31) := by kernel_rfl
theorem nl_34 : nlT Tryz.prog 34 = 5 := by kernel_rfl
theorem ag_34 : zne Tryz.prog 34 = some false := by kernel_rfl
theorem sz_34 : zbj Tryz.prog 34 = some 1 := by kernel_rfl
theorem el_34 : elT Tryz.prog 34 = some 36 := by kernel_rfl
theorem zq9 : zde Tryz.prog 36 = some 88 := by kernel_rfl
theorem ag_36 : zne Tryz.prog 36 = some true := by kernel_rfl
theorem sz_36 : zbj Tryz.prog 36 = some 5 := by kernel_rfl
theorem ze_36 : zc8 Tryz.prog 36 = some [.t (.int .i64 0), .t (.str []), .nl 2, .t (.str []), .nl 5] := by kernel_rfl
theorem pl_36 : qd0 Tryz.prog 36 = some [(0, 1), (1, 2), (3, 1), (4, 1)] := by kernel_rfl
theorem qhn : zia Tryz.prog 36 0 = some (0, 3) := by kernel_rfl
theorem qhh : zia Tryz.prog 36 1 = some (1, 33) := by kernel_rfl
theorem qgm : zia Tryz.prog 36 2 = some (3, 9) := by kernel_rfl
theorem qgg : zia Tryz.prog 36 3 = some (4, 34) := by kernel_rfl
theorem nl_40 : nlT Tryz.prog 40 = 1 := by kernel_rfl
theorem el_40 : elT Tryz.prog 40 = some 31 := by kernel_rfl
theorem qda : zde Tryz.prog 31 = some 24 := by kernel_rfl
theorem ag_49 : zne Tryz.prog 49 = some false := by kernel_rfl
theorem el_49 : elT Tryz.prog 49 = some 3 := by kernel_rfl
theorem nl_70 : nlT Tryz.prog 70 = 1 := by kernel_rfl
theorem el_70 : elT Tryz.prog 70 = some 9 := by kernel_rfl
theorem zy9 : zde Tryz.prog 9 = some 16 := by kernel_rfl
theorem ag_91 : zne Tryz.prog 91 = some false := by kernel_rfl
theorem el_168 : elT Tryz.prog 168 = some 5 := by kernel_rfl
theorem us_168 : u8S Tryz.prog 168 = true := by kernel_rfl
theorem in_168 : zz1 Tryz.prog 168 = none := by kernel_rfl
theorem ag_178 : zne Tryz.prog 178 = some false := by kernel_rfl
theorem sz_178 : zbj Tryz.prog 178 = some 1 := by kernel_rfl
theorem qen : elT Tryz.prog 178 = some 201 := by kernel_rfl
theorem zka : zde Tryz.prog 201 = some 56 := by kernel_rfl
theorem ag_180 : zne Tryz.prog 180 = some true := by kernel_rfl
theorem sz_180 : zbj Tryz.prog 180 = some 1 := by kernel_rfl
theorem ze_180 : zc8 Tryz.prog 180 = some [.nl 3] := by kernel_rfl
theorem pl_180 : qd0 Tryz.prog 180 = some [(0, 1)] := by kernel_rfl
theorem qa0 : zia Tryz.prog 180 0 = some (0, 178) := by kernel_rfl
theorem qei : zbj Tryz.prog 201 = some 3 := by kernel_rfl
theorem qea : zc8 Tryz.prog 201 = some [.t (.str []), .t (.str []), .nl 2] := by kernel_rfl
theorem pl_201 : qd0 Tryz.prog 201 = some [(0, 1), (1, 2)] := by kernel_rfl
theorem qcz : zia Tryz.prog 201 0 = some (0, 9) := by kernel_rfl
theorem qb6 : zia Tryz.prog 201 1 = some (1, 33) := by kernel_rfl
theorem ap_31 : apT Tryz.prog 31 2 := zrc el_31 sz_33 zr6 (by decide) ze_33 rfl
theorem ap_34 : apT Tryz.prog 34 5 := zrc el_34 sz_36 zq9 (by decide) ze_36 rfl
theorem ap_70 : apT Tryz.prog 70 1 := zrc el_70 sz_9 zy9 (by decide) ze_9 rfl
theorem ap_178 : apT Tryz.prog 178 3 := zrc qen qei zka (by decide) qea rfl
attribute [go_sem] ag_3 sz_3 in_3 ze_3 bo_4 sz_5 in_5 ze_5 ag_9 sz_9 in_9 st_9 ze_9 ag_22 sz_22 el_22 ag_24 sz_24 qgl qfc ag_25 sz_25 el_25 ag_27 sz_27 qf0 qg7 qg2 qhq el_28 nl_31 ag_31 sz_31 el_31 zr6 ze_31 ag_33 sz_33 ze_33 pl_33 qf5 qe5 nl_34 ag_34 sz_34 el_34 zq9 ag_36 sz_36 ze_36 pl_36 qhn qhh qgm qgg nl_40 el_40 qda ag_49 el_49 nl_70 el_70 zy9 ag_91 el_168 us_168 in_168 ag_178 sz_178 qen zka ag_180 sz_180 ze_180 pl_180 qa0 qei qea pl_201 qcz qb6 ap_31 ap_34 ap_70 ap_178
attribute [go_sem] Nat.reduceEqDiff reduceIte reduceCtorEq Nat.reduceAdd Nat.reduceMul Int.reduceLE Int.reduceNeg Int.reduceToNat Nat.reduceLeDiff Nat.reduceSub Nat.reduceLT Nat.le_refl Int.cast_ofNat_Int Int.reduceLT Int.reduceGT Int.reduceGE Int.reduceEq Int.reduceBEq Nat.reduceBEq Int.reduceBNe Int.reduceAdd Int.reduceSub gt_iff_lt ge_iff_le
end Go.Proofs.YtbccfiillleimaaGreat
namespace Go.Proofs.YtbccfiillleimaaGreat
set_option linter.unusedSimpArgs false
set_option linter.unusedVariables false
set_option linter.unusedSectionVars false
set_option maxRecDepth 4000
open Go.RowKit
abbrev Str := List UInt8
inductive Tm where
 | mk (name : Str) (args : List Tm)
def Tm.name : Tm -> Str | .mk n _ => n
def Tm.args : Tm -> List Tm | .mk _ xs => xs
theorem Tm.eta : ∀ a : Tm, Tm.mk a.name a.args = a | .mk _ _ => rfl
mutual
theorem zbd {P : Tm -> Prop} (h : ∀ n xs, (∀ x ∈ xs, P x) -> P (.mk n xs)) : ∀ a, P a
 | .mk n xs => h n xs (zv7 h xs)
theorem zv7 {P : Tm -> Prop} (h : ∀ n xs, (∀ x ∈ xs, P x) -> P (.mk n xs)) : ∀ xs : List Tm, ∀ x ∈ xs, P x
 | [], x, hx => absurd hx (by simp)
 | a :: xs, x, hx => (List.mem_cons.1 hx).elim (fun e => e ▸ zbd h a) (zv7 h xs x)
end
mutual
def Tm.fold {α : Type} (f : Str -> List Tm -> List α -> α) : Tm -> α
 | .mk n xs => f n xs (Tm.folds f xs)
def Tm.folds {α : Type} (f : Str -> List Tm -> List α -> α) : List Tm -> List α
 | [] => []
 | a :: xs => Tm.fold f a :: Tm.folds f xs
end
theorem Tm.folds_map {α : Type} (f : Str -> List Tm -> List α -> α) (xs : List Tm) : Tm.folds f xs = xs.map (Tm.fold f) := by
 induction xs with
 | nil => rfl
 | cons a xs ih => rw [Tm.folds, ih]; rfl
theorem Tm.fold_eq {α : Type} (f : Str -> List Tm -> List α -> α) (a : Tm) : Tm.fold f a = f a.name a.args (a.args.map (Tm.fold f)) := by
 cases a; rw [Tm.fold, Tm.folds_map]; rfl
inductive Fm where
 | mk (op : Int) (atom : Tm) (var : Str) (parts : List Fm)
def Fm.op : Fm -> Int | .mk o _ _ _ => o
def Fm.atom : Fm -> Tm | .mk _ a _ _ => a
def Fm.var : Fm -> Str | .mk _ _ v _ => v
def Fm.parts : Fm -> List Fm | .mk _ _ _ ps => ps
theorem Fm.eta : ∀ a : Fm, Fm.mk a.op a.atom a.var a.parts = a | .mk _ _ _ _ => rfl
mutual
theorem zba {P : Fm -> Prop} (h : ∀ o a v ps, (∀ x ∈ ps, P x) -> P (.mk o a v ps)) : ∀ f, P f
 | .mk o a v ps => h o a v ps (zv8 h ps)
theorem zv8 {P : Fm -> Prop} (h : ∀ o a v ps, (∀ x ∈ ps, P x) -> P (.mk o a v ps)) : ∀ xs : List Fm, ∀ x ∈ xs, P x
 | [], x, hx => absurd hx (by simp)
 | a :: xs, x, hx => (List.mem_cons.1 hx).elim (fun e => e ▸ zba h a) (zv8 h xs x)
end
mutual
def Fm.fold {α : Type} (f : Int -> Tm -> Str -> List Fm -> List α -> α) : Fm -> α
 | .mk o a v ps => f o a v ps (Fm.folds f ps)
def Fm.folds {α : Type} (f : Int -> Tm -> Str -> List Fm -> List α -> α) : List Fm -> List α
 | [] => []
 | a :: xs => Fm.fold f a :: Fm.folds f xs
end
theorem Fm.folds_map {α : Type} (f : Int -> Tm -> Str -> List Fm -> List α -> α) (xs : List Fm) : Fm.folds f xs = xs.map (Fm.fold f) := by
 induction xs with
 | nil => rfl
 | cons a xs ih => rw [Fm.folds, ih]; rfl
theorem Fm.fold_eq {α : Type} (f : Int -> Tm -> Str -> List Fm -> List α -> α) (a : Fm) : Fm.fold f a = f a.op a.atom a.var a.parts (a.parts.map (Fm.fold f)) := by
 cases a; rw [Fm.fold, Fm.folds_map]; rfl
def tmC : Tm -> List T := Tm.fold fun n _ rs => [.str n, .sl 2 rs]
theorem zaa (a : Tm) : tmC a = [.str a.name, .sl 2 (a.args.map tmC)] := Tm.fold_eq _ a
def fmC : Fm -> List T := Fm.fold fun o a v _ rs => [.int .i64 o, .str a.name, .sl 2 (a.args.map tmC), .str v, .sl 5 rs]
theorem zab (a : Fm) : fmC a = [.int .i64 a.op, .str a.atom.name, .sl 2 (a.atom.args.map tmC), .str a.var, .sl 5 (a.parts.map fmC)] := Fm.fold_eq _ a
theorem zen (o : Int) (a : Tm) (v : Str) (ps : List Fm) : fmC (.mk o a v ps) = [.int .i64 o, .str a.name, .sl 2 (a.args.map tmC), .str v, .sl 5 (ps.map fmC)] := zab _
abbrev tmD (a : Tm) : D := .agg (tmC a)
abbrev fmD (a : Fm) : D := .agg (fmC a)
abbrev tmS (xs : List Tm) : T := .sl 2 (xs.map tmC)
abbrev fmS (xs : List Fm) : T := .sl 5 (xs.map fmC)
abbrev iD (n : Int) : D := .one (.int .i64 n)
abbrev bD (b : Bool) : D := .one (.bool b)
abbrev sD (s : Str) : D := .one (.str s)
theorem zai {α : Type} (f : α -> List T) (xs : List α) (k : Nat) (h : k < xs.length) : (xs.map f).getD k [] = f (xs[k]'h) := by simp [List.getD, h]
def Tm.wt : Tm -> Nat := Tm.fold fun n xs rs => n.length + xs.length + rs.sum
theorem Tm.wt_eq (a : Tm) : a.wt = a.name.length + a.args.length + (a.args.map Tm.wt).sum := Tm.fold_eq _ a
def Fm.wt : Fm -> Nat := Fm.fold fun _ a v ps rs => a.wt + v.length + ps.length + rs.sum
theorem Fm.wt_eq (a : Fm) : a.wt = a.atom.wt + a.var.length + a.parts.length + (a.parts.map Fm.wt).sum := Fm.fold_eq _ a
def zfc (xs : List Tm) : Nat := xs.length + (xs.map Tm.wt).sum
def zp7 (xs : List Fm) : Nat := xs.length + (xs.map Fm.wt).sum
def szR (w : Nat) (left : Int) : Int := if (w : Int) <= left then left - w else -1
def zmb {α : Type} (f : α -> Nat) (xs : List α) (k : Nat) : Nat := ((xs.take k).map f).sum
theorem zd2 {α : Type} (f : α -> Nat) (xs : List α) : zmb f xs 0 = 0 := by simp [zmb]
theorem zit {α : Type} (f : α -> Nat) (xs : List α) (k : Nat) (h : k < xs.length) : zmb f xs (k + 1) = zmb f xs k + f xs[k] := by
 unfold zmb
 rw [List.take_succ_eq_append_getElem h, List.map_append, List.sum_append]; simp
theorem zqd {α : Type} (f : α -> Nat) (xs : List α) (k : Nat) : zmb f xs k <= (xs.map f).sum := by
 unfold zmb
 conv => rhs; rw [<- List.take_append_drop k xs, List.map_append, List.sum_append]
 omega
theorem zl2 {α : Type} (f : α -> Nat) (xs : List α) (k : Nat) (h : xs.length <= k) : zmb f xs k = (xs.map f).sum := by
 unfold zmb
 rw [List.take_of_length_le h]
theorem zbl {α : Type} (f : α -> Nat) (xs : List α) : ∀ x ∈ xs, f x <= (xs.map f).sum := by
 induction xs with
 | nil => simp
 | cons a xs ih =>
  intro x hx
  rcases List.mem_cons.1 hx with rfl | hx
  ·simp
  ·have := ih x hx; simp; omega
noncomputable def same {α : Type} (a b : α) : Bool := @decide (a = b) (Classical.propDecidable _)
theorem zeg {α : Type} {a b : α} : same a b = true ↔ a = b := by simp [same]
theorem zea {α : Type} {a b : α} : same a b = false ↔ a ≠ b := by simp [same]
theorem zbe {α : Type} (a : α) : same a a = true := by simp [same]
theorem zdz {α : Type} (a b : α) (xs ys : List α) : same (a :: xs) (b :: ys) = (same a b && same xs ys) := by
 rw [Bool.eq_iff_iff, Bool.and_eq_true, zeg, zeg, zeg, List.cons.injEq]
theorem zlw {α : Type} : same ([] : List α) [] = true := zbe _
theorem zao {k : Nat} (h : k < 9223372036854775807) : IntKind.i64.wrap ((k : Int) + 1) = ((k + 1 : Nat) : Int) := zw5 h
theorem zg4 {w : Nat} {l : Int} (h0 : 0 <= l) (h : szR w l < 0) : l < w := by unfold szR at h; split at h <;> omega
theorem ze5 {w : Nat} {l : Int} (h : ¬ szR w l < 0) : (w : Int) <= l /\ szR w l = l - w := by
 by_cases hh : (w : Int) <= l
 ·exact ⟨hh, if_pos hh⟩
 ·exact absurd (by rw [szR, if_neg hh]; omega) h
theorem zdf {w : Nat} {l : Int} (h : l < w) : szR w l = -1 := if_neg (by omega)
theorem zok {w : Nat} {l : Int} (h : (w : Int) <= l) : szR w l = l - w := if_pos h
theorem zwa {k : IntKind} {a b : Int} (h : a = b) : T.int k a = T.int k b := h ▸ rfl
theorem zgq (A : List (List T)) (n k : Nat) (z ts : List T) (hA : A.length = k) (hk : k < n) (hz : ts.length = z.length) : zd0 (A ++ List.replicate (n - k) z) k 0 ts = A ++ [ts] ++ List.replicate (n - (k + 1)) z := by
 subst hA
 have e : List.replicate (n - A.length) z = z :: List.replicate (n - (A.length + 1)) z := by
  rw [show n - A.length = (n - (A.length + 1)) + 1 by omega]; rfl
 unfold zd0
 rw [e]
 simp [zwm _ _ hz]
end Go.Proofs.YtbccfiillleimaaGreat
namespace Go.Proofs.YtbccfiillleimaaGreat
set_option linter.unusedSimpArgs false
set_option linter.unusedVariables false
set_option linter.unusedSectionVars false
set_option maxRecDepth 4000
open Go.RowKit
theorem zc5.cons {P : Program} {t : TypeId} {ts : List TypeId} {xs : List PD} (h : zc5 P (t :: ts) xs) : ∃ x xs', xs = x :: xs' /\ zbk P t x /\ zc5 P ts xs' := by
 cases xs with
 | nil => rw [zc5] at h; cases h
 | cons x xs =>
  rw [zc5] at h
  obtain ⟨t', ts', e, h1, h2⟩ := h
  cases e
  exact ⟨x, xs, rfl, h1, h2⟩
theorem zc5.nil {P : Program} {xs : List PD} (h : zc5 P [] xs) : xs = [] := by
 cases xs with
 | nil => rfl
 | cons x xs =>
  rw [zc5] at h
  obtain ⟨t', ts', e, _⟩ := h
  cases e
theorem zn1 {Q : PD -> Prop} (h : ∀ d, (∀ d', SizeOf.sizeOf d' < SizeOf.sizeOf d -> Q d') -> Q d) (d : PD) : Q d := by
 have : ∀ n (d : PD), SizeOf.sizeOf d < n -> Q d := by
  intro n
  induction n with
  | zero => intro d hd; omega
  | succ n ih => intro d hd; exact h d fun d' hd' => ih d' (by omega)
 exact this _ d (Nat.lt_succ_self _)
theorem zd8 {α : Type} (c : α -> List T) : ∀ (xs : List PD), (∀ x ∈ xs, ∃ a, x.cells = c a) -> ∃ l : List α, PD.rows xs = l.map c
 | [], _ => ⟨[], rfl⟩
 | x :: xs, h => by
  obtain ⟨a, ha⟩ := h x (by simp)
  obtain ⟨l, hl⟩ := zd8 c xs fun y hy => h y (by simp [hy])
  exact ⟨a :: l, by rw [PD.rows, ha, hl]; rfl⟩
theorem zwb : ∀ d, zbk Tryz.prog 24 d -> ∃ a : Tm, d.cells = tmC a :=
 zn1 fun d ih h => by
  obtain ⟨fs, rfl, hf⟩ := h.st Tryz.underlying24
  have hf : zc5 Tryz.prog [9, 22] fs := hf
  obtain ⟨x1, r1, rfl, h1, hf⟩ := hf.cons
  obtain ⟨x2, r2, rfl, h2, hf⟩ := hf.cons
  obtain rfl := hf.nil
  obtain ⟨n, rfl⟩ := h1.str Tryz.underlying9
  obtain ⟨xs, rfl, hx⟩ := h2.sl Tryz.underlying22
  obtain ⟨l, hl⟩ := zd8 tmC xs fun x hx' => ih x (by have := List.sizeOf_lt_of_mem hx'; simp; omega) (hx x hx')
  exact ⟨.mk n l, by
   rw [zaa, PD.cells, PD.flat, PD.flat, PD.flat, PD.cells, PD.cells, hl, show Tryz.prog.cellsOf 24 = 2 from by kernel_rfl]; rfl⟩
theorem qb1 {d : PD} (h : zbk Tryz.prog 22 d) : ∃ l : List Tm, d.cells = [tmS l] := by
 obtain ⟨xs, rfl, hx⟩ := h.sl Tryz.underlying22
 obtain ⟨l, hl⟩ := zd8 tmC xs fun x hx' => zwb x (hx x hx')
 exact ⟨l, by rw [PD.cells, hl, show Tryz.prog.cellsOf 24 = 2 from by kernel_rfl]⟩
theorem zud : ∀ d, zbk Tryz.prog 27 d -> ∃ a : Fm, d.cells = fmC a :=
 zn1 fun d ih h => by
  obtain ⟨fs, rfl, hf⟩ := h.st Tryz.underlying27
  have hf : zc5 Tryz.prog [3, 24, 9, 25] fs := hf
  obtain ⟨x1, r1, rfl, h1, hf⟩ := hf.cons
  obtain ⟨x2, r2, rfl, h2, hf⟩ := hf.cons
  obtain ⟨x3, r3, rfl, h3, hf⟩ := hf.cons
  obtain ⟨x4, r4, rfl, h4, hf⟩ := hf.cons
  obtain rfl := hf.nil
  obtain ⟨o, rfl⟩ := h1.int Tryz.underlying3
  obtain ⟨a, ha⟩ := zwb _ h2
  obtain ⟨v, rfl⟩ := h3.str Tryz.underlying9
  obtain ⟨xs, rfl, hx⟩ := h4.sl Tryz.underlying25
  obtain ⟨l, hl⟩ := zd8 fmC xs fun x hx' => ih x (by have := List.sizeOf_lt_of_mem hx'; simp; omega) (hx x hx')
  exact ⟨.mk o a v l, by
   rw [zab, PD.cells, PD.flat, PD.flat, PD.flat, PD.flat, PD.flat, PD.cells, PD.cells, PD.cells, hl, ha, zaa, show Tryz.prog.cellsOf 27 = 5 from by kernel_rfl]; rfl⟩
end Go.Proofs.YtbccfiillleimaaGreat
namespace Go.Proofs.YtbccfiillleimaaGreat
set_option linter.unusedSimpArgs false
set_option linter.unusedVariables false
set_option linter.unusedSectionVars false
set_option maxRecDepth 4000
open Go.RowKit
set_option maxHeartbeats 400000 in
theorem zjr (xs : List Tm) (H : ∀ x ∈ xs, ∀ l : Int, 0 <= l -> l <= 1048576 -> FC Tryz.prog 54 [tmD x, iD l] [iD (szR x.wt l)]) (l : Int) (h0 : 0 <= l) (h1 : l <= 1048576) :
  FC Tryz.prog 56 [.one (tmS xs), iD l] [iD (szR (zfc xs) l)] := by
 refine zdi (fun hw => ?_) Tryz.call56
 have hl : xs.length <= 9223372036854775807 := by simpa [zho, wfT] using hw.1.1
 refine zam Tryz.call56 Tryz.func56 rfl (by kernel_rfl) (za1 (by kernel_rfl)) ?_
 simp -implicitDefEqProofs only [go_sem, Tryz.results56]
 rw [zbp (by omega) (by omega)]
 have hW : zfc xs = xs.length + (xs.map Tm.wt).sum := rfl
 refine ⟨fun h => ?_, fun h => ?_⟩
 ·rw [zdf (by simp at h; omega)]
 ·have hlen : (xs.length : Int) <= l := by simp at h; omega
  refine zae (fun k : Nat => hd [(0, vT (tmS xs)), (1, vI (l - xs.length - zmb Tm.wt xs k)), (5, vI k)] [] []) (fun k => k <= xs.length /\ 0 <= l - xs.length - zmb Tm.wt xs k) (fun k => xs.length - k) 0 (zac ?_) ?_ ?_
  ·simp -implicitDefEqProofs only [go_sem]
   simp [zd2]
  ·simpa [zd2] using hlen
  ·intro k ⟨hk, hp⟩
   by_cases hlt : k < xs.length
   ·have hs := zit Tm.wt xs k hlt
    have hs2 := zqd Tm.wt xs (k + 1)
    simp -implicitDefEqProofs only [go_sem, List.length_map, zai, hlt, zaa]
    refine callF (H xs[k] (List.getElem_mem hlt) (l - xs.length - zmb Tm.wt xs k) hp (by omega)) (by simp -implicitDefEqProofs only [go_sem, zaa]) ?_
    simp -implicitDefEqProofs only [go_sem, zaa]
    refine ⟨fun h => ?_, fun h => ?_⟩
    ·have := zg4 hp (by simpa using h)
     rw [zdf (by omega)]
    ·obtain ⟨h2, h3⟩ := ze5 (by simpa using h)
     rw [zao (by omega)]
     exact ⟨k + 1, ⟨hlt, by omega⟩, by omega, zac (by simp -implicitDefEqProofs only [go_sem]; rw [h3]; congr 1; omega)⟩
   ·simp -implicitDefEqProofs only [go_sem, List.length_map, hlt]
    have hall := zl2 Tm.wt xs k (by omega)
    rw [hall, zok (by omega)]; congr 1; omega
set_option maxHeartbeats 400000 in
theorem zjw (xs : List Tm) (H : ∀ x ∈ xs, FC Tryz.prog 58 [tmD x] [tmD x]) (hs : xs.length <= 1048576) :
  FC Tryz.prog 60 [.one (tmS xs)] [.one (tmS xs)] := by
 refine zdi (fun hw => ?_) Tryz.call60
 refine zam Tryz.call60 Tryz.func60 rfl (by kernel_rfl) (za1 (by kernel_rfl)) ?_
 simp -implicitDefEqProofs only [go_sem, Tryz.results60]
 refine qbz (by simp -implicitDefEqProofs only [go_sem]; omega) ?_
 simp -implicitDefEqProofs only [go_sem]
 refine zae (fun k : Nat => hd [(0, vT (tmS xs)), (3, .one (.ow 224 0)), (4, vI k)] [] [(224, ⟨true, 2, (xs.take k).map tmC ++ List.replicate (xs.length - k) [T.str [], T.sl 2 []], 0, true⟩)]) (fun k => k <= xs.length) (fun k => xs.length - k) 0 (zac ?_) ?_ ?_
 ·simp -implicitDefEqProofs only [go_sem]
  simp
 ·simp
 ·intro k hk
  by_cases hlt : k < xs.length
  ·have hlen : ((xs.take k).map tmC ++ List.replicate (xs.length - k) [T.str [], T.sl 2 []]).length = xs.length := by simp; omega
   have hlt2 : k < k + (xs.length - k) := by omega
   simp -implicitDefEqProofs only [go_sem, List.length_map, zai, hlt, zaa]
   refine callF (H xs[k] (List.getElem_mem hlt)) (by simp -implicitDefEqProofs only [go_sem, zaa, hlen, hlt, List.length_append, List.length_map, List.length_take, List.length_replicate, Nat.min_eq_left hk, hlt2]) ?_
   simp -implicitDefEqProofs only [go_sem, zaa, hlen, hlt, List.length_append, List.length_map, List.length_take, List.length_replicate, Nat.min_eq_left hk, hlt2]
   refine zhc (by simp -implicitDefEqProofs only [go_sem]; simp) ?_
   simp -implicitDefEqProofs only [go_sem]
   rw [zao (by omega)]
   refine ⟨k + 1, by omega, by omega, zac ?_⟩
   simp -implicitDefEqProofs only [go_sem]
   have hf := zgq ((xs.take k).map tmC) xs.length k [T.str [], T.sl 2 []] (tmC xs[k]) (by simp; omega) hlt (by simp [zaa])
   simp only [zaa] at hf
   rw [hf, List.take_succ_eq_append_getElem hlt, List.map_append, List.map_singleton]
   simp only [zaa]
  ·simp -implicitDefEqProofs only [go_sem, List.length_map, hlt]
   simp [List.take_of_length_le (show xs.length <= k by omega), show xs.length - k = 0 by omega]
set_option maxHeartbeats 400000 in
theorem zkh (xs ys : List Tm) (H : ∀ x ∈ xs, ∀ y, FC Tryz.prog 69 [tmD x, tmD y] [bD (same x y)]) :
  FC Tryz.prog 71 [.one (tmS xs), .one (tmS ys)] [bD (same xs ys)] := by
 refine zdi (fun hw => ?_) Tryz.call71
 have hl : xs.length <= 9223372036854775807 := by simpa [zho, wfT] using hw.1.1
 have hl2 : ys.length <= 9223372036854775807 := by simpa [zho, wfT] using hw.2.1.1
 refine zam Tryz.call71 Tryz.func71 rfl (by kernel_rfl) (za1 (by kernel_rfl)) ?_
 simp -implicitDefEqProofs only [go_sem, Tryz.results71]
 refine ⟨fun h => ?_, fun h => ?_⟩
 ·rw [zea.2 (by rintro rfl; simp at h)]
 ·have hlen : xs.length = ys.length := by simp at h; omega
  refine zae (fun k : Nat => hd [(0, vT (tmS xs)), (1, vT (tmS ys)), (4, vB false), (5, vI k)] [] []) (fun k => k <= xs.length /\ same xs ys = same (xs.drop k) (ys.drop k)) (fun k => xs.length - k) 0 (zac ?_) ?_ ?_
  ·simp -implicitDefEqProofs only [go_sem]
  ·simp
  ·intro k ⟨hk, hr⟩
   by_cases hlt : k < xs.length
   ·have hk2 : k < ys.length := by omega
    simp -implicitDefEqProofs only [go_sem, List.length_map, hlt]
    refine drawn (by kernel_rfl) ?_
    simp -implicitDefEqProofs only [go_sem, List.length_map, zai, hlt, hk2, zaa]
    refine za6 (H xs[k] (List.getElem_mem hlt) ys[k]) (by simp -implicitDefEqProofs only [go_sem, zaa]) ?_
    simp -implicitDefEqProofs only [go_sem, zaa]
    refine ⟨by kernel_rfl, fun h => ?_, fun h => ?_⟩
    ·rw [hr, List.drop_eq_getElem_cons hlt, List.drop_eq_getElem_cons hk2, zdz, show same xs[k] ys[k] = false by simpa using h]; rfl
    ·rw [List.drop_eq_getElem_cons hlt, List.drop_eq_getElem_cons hk2, zdz, show same xs[k] ys[k] = true by simpa using h, Bool.true_and] at hr
     rw [zao (by omega)]
     exact ⟨k + 1, ⟨by omega, hr⟩, by omega, zac (by simp -implicitDefEqProofs only [go_sem])⟩
   ·simp -implicitDefEqProofs only [go_sem, List.length_map, hlt]
    rw [hr, List.drop_of_length_le (by omega), List.drop_of_length_le (by omega), zlw]
set_option maxHeartbeats 400000 in
theorem zvi (a : Tm) (H : ∀ l : Int, 0 <= l -> l <= 1048576 -> FC Tryz.prog 56 [.one (tmS a.args), iD l] [iD (szR (zfc a.args) l)]) (l : Int) (h0 : 0 <= l) (h1 : l <= 1048576) :
  FC Tryz.prog 54 [tmD a, iD l] [iD (szR a.wt l)] := by
 refine zdi (fun hw => ?_) Tryz.call54
 simp only [tmD, zaa] at hw ⊢
 have hW := a.wt_eq
 have hls : a.name.length <= 9223372036854775807 /\ True := by simp [zho, wfT, zr2] at hw; simp [hw]
 refine zam Tryz.call54 Tryz.func54 rfl (by kernel_rfl) (za1 (by kernel_rfl)) ?_
 simp -implicitDefEqProofs only [go_sem, Tryz.results54]
 rw [zbp (by omega) (by omega)]
 refine ⟨fun h1 => ?_, fun h1 => ?_⟩
 ·rw [zdf (by simp at h1; have hu0 : zfc a.args = a.args.length + (a.args.map Tm.wt).sum := rfl;  omega)]
 have k1 : (a.name.length : Int) <= l := by simp at h1; omega
 refine callF (H (l - (a.name.length : Int)) (by omega) (by omega)) (by simp -implicitDefEqProofs only [go_sem, zaa]) ?_
 simp -implicitDefEqProofs only [go_sem, zaa]
 refine ⟨fun h2 => ?_, fun h2 => ?_⟩
 ·have := zg4 (by omega) (show szR (zfc a.args) (l - (a.name.length : Int)) < 0 by simpa using h2)
  rw [zdf (by have hu0 : zfc a.args = a.args.length + (a.args.map Tm.wt).sum := rfl;  omega)]
 obtain ⟨k2, j2⟩ := ze5 (show ¬ szR (zfc a.args) (l - (a.name.length : Int)) < 0 by simpa using h2)
 rw [show szR a.wt l = l - a.wt from zok (by have hu0 : zfc a.args = a.args.length + (a.args.map Tm.wt).sum := rfl;  omega)]; exact zwa (by have hu0 : zfc a.args = a.args.length + (a.args.map Tm.wt).sum := rfl;  omega)
set_option maxHeartbeats 400000 in
theorem zzr (a : Tm) (H : FC Tryz.prog 60 [.one (tmS a.args)] [.one (tmS a.args)]) (hs : a.wt <= 1048576) : FC Tryz.prog 58 [tmD a] [tmD a] := by
 have hW := a.wt_eq
 simp only [tmD, zaa]
 refine zam Tryz.call58 Tryz.func58 rfl (by kernel_rfl) (za1 (by kernel_rfl)) ?_
 simp -implicitDefEqProofs only [go_sem, Tryz.results58]
 refine callF (H) (by simp -implicitDefEqProofs only [go_sem, zaa]) ?_
 simp -implicitDefEqProofs only [go_sem, zaa]
set_option maxHeartbeats 400000 in
theorem zyy (a b : Tm) (H : FC Tryz.prog 71 [.one (tmS a.args), .one (tmS b.args)] [bD (same a.args b.args)]) : FC Tryz.prog 69 [tmD a, tmD b] [bD (same a b)] := by
 simp only [tmD, zaa]
 refine zam Tryz.call69 Tryz.func69 rfl (by kernel_rfl) (za1 (by kernel_rfl)) ?_
 simp -implicitDefEqProofs only [go_sem, Tryz.results69]
 refine ⟨fun h1 => ?_, fun h1 => ?_⟩
 ·rw [zea.2 (by rintro rfl; simp [zbe] at h1)]
 refine callF (H) (by simp -implicitDefEqProofs only [go_sem, zaa]) ?_
 simp -implicitDefEqProofs only [go_sem, zaa]
 refine ⟨fun h2 => ?_, fun h2 => ?_⟩
 ·rw [zea.2 (by rintro rfl; simp [zbe] at h2)]
 rw [zeg.2 (by cases a; cases b; simp [zeg, Tm.name, Tm.args] at h1 h2 ⊢; simp [h1, h2])]
theorem zq1 : ∀ a : Tm, ∀ l : Int, 0 <= l -> l <= 1048576 -> FC Tryz.prog 54 [tmD a, iD l] [iD (szR a.wt l)] :=
 zbd fun b0 xs ih l h0 h1 => zvi (.mk b0 xs) (fun l h0 h1 => zjr xs ih l h0 h1) l h0 h1
theorem zv6 (xs : List Tm) (l : Int) (h0 : 0 <= l) (h1 : l <= 1048576) : FC Tryz.prog 56 [.one (tmS xs), iD l] [iD (szR (zfc xs) l)] := zjr xs (fun x _ => zq1 x) l h0 h1
theorem zr8 : ∀ a : Tm, a.wt <= 1048576 -> FC Tryz.prog 58 [tmD a] [tmD a] := by
 refine zbd fun b0 xs ih hs => ?_
 have hW := Tm.wt_eq (.mk b0 xs)
 simp only [Tm.name, Tm.args] at hW
 refine zzr _ (zjw xs (fun x hx => ih x hx ?_) (by omega)) hs
 have := zbl Tm.wt xs x hx
 omega
theorem zyn (xs : List Tm) (hs : zfc xs <= 1048576) : FC Tryz.prog 60 [.one (tmS xs)] [.one (tmS xs)] :=
 zjw xs (fun x hx => zr8 x (by have := zbl Tm.wt xs x hx; unfold zfc at hs; omega)) (by unfold zfc at hs; omega)
theorem zrl : ∀ a b : Tm, FC Tryz.prog 69 [tmD a, tmD b] [bD (same a b)] :=
 zbd fun b0 xs ih b => zyy (.mk b0 xs) b (zkh xs b.args ih)
theorem zy4 (xs ys : List Tm) : FC Tryz.prog 71 [.one (tmS xs), .one (tmS ys)] [bD (same xs ys)] := zkh xs ys fun x _ => zrl x
end Go.Proofs.YtbccfiillleimaaGreat
namespace Go.Proofs.YtbccfiillleimaaGreat
set_option linter.unusedSimpArgs false
set_option linter.unusedVariables false
set_option linter.unusedSectionVars false
set_option maxRecDepth 4000
open Go.RowKit
set_option maxHeartbeats 400000 in
theorem zl8 (xs : List Fm) (H : ∀ x ∈ xs, ∀ l : Int, 0 <= l -> l <= 1048576 -> FC Tryz.prog 13 [fmD x, iD l] [iD (szR x.wt l)]) (l : Int) (h0 : 0 <= l) (h1 : l <= 1048576) :
  FC Tryz.prog 55 [.one (fmS xs), iD l] [iD (szR (zp7 xs) l)] := by
 refine zdi (fun hw => ?_) Tryz.call55
 have hl : xs.length <= 9223372036854775807 := by simpa [zho, wfT] using hw.1.1
 refine zam Tryz.call55 Tryz.func55 rfl (by kernel_rfl) (za1 (by kernel_rfl)) ?_
 simp -implicitDefEqProofs only [go_sem, Tryz.results55]
 rw [zbp (by omega) (by omega)]
 have hW : zp7 xs = xs.length + (xs.map Fm.wt).sum := rfl
 refine ⟨fun h => ?_, fun h => ?_⟩
 ·rw [zdf (by simp at h; omega)]
 ·have hlen : (xs.length : Int) <= l := by simp at h; omega
  refine zae (fun k : Nat => hd [(0, vT (fmS xs)), (1, vI (l - xs.length - zmb Fm.wt xs k)), (5, vI k)] [] []) (fun k => k <= xs.length /\ 0 <= l - xs.length - zmb Fm.wt xs k) (fun k => xs.length - k) 0 (zac ?_) ?_ ?_
  ·simp -implicitDefEqProofs only [go_sem]
   simp [zd2]
  ·simpa [zd2] using hlen
  ·intro k ⟨hk, hp⟩
   by_cases hlt : k < xs.length
   ·have hs := zit Fm.wt xs k hlt
    have hs2 := zqd Fm.wt xs (k + 1)
    simp -implicitDefEqProofs only [go_sem, List.length_map, zai, hlt, zab, zaa]
    refine callF (H xs[k] (List.getElem_mem hlt) (l - xs.length - zmb Fm.wt xs k) hp (by omega)) (by simp -implicitDefEqProofs only [go_sem, zab, zaa]) ?_
    simp -implicitDefEqProofs only [go_sem, zab, zaa]
    refine ⟨fun h => ?_, fun h => ?_⟩
    ·have := zg4 hp (by simpa using h)
     rw [zdf (by omega)]
    ·obtain ⟨h2, h3⟩ := ze5 (by simpa using h)
     rw [zao (by omega)]
     exact ⟨k + 1, ⟨hlt, by omega⟩, by omega, zac (by simp -implicitDefEqProofs only [go_sem]; rw [h3]; congr 1; omega)⟩
   ·simp -implicitDefEqProofs only [go_sem, List.length_map, hlt]
    have hall := zl2 Fm.wt xs k (by omega)
    rw [hall, zok (by omega)]; congr 1; omega
set_option maxHeartbeats 400000 in
theorem zkq (xs : List Fm) (H : ∀ x ∈ xs, FC Tryz.prog 16 [fmD x] [fmD x]) (hs : xs.length <= 1048576) :
  FC Tryz.prog 59 [.one (fmS xs)] [.one (fmS xs)] := by
 refine zdi (fun hw => ?_) Tryz.call59
 refine zam Tryz.call59 Tryz.func59 rfl (by kernel_rfl) (za1 (by kernel_rfl)) ?_
 simp -implicitDefEqProofs only [go_sem, Tryz.results59]
 refine qbz (by simp -implicitDefEqProofs only [go_sem]; omega) ?_
 simp -implicitDefEqProofs only [go_sem]
 refine zae (fun k : Nat => hd [(0, vT (fmS xs)), (3, .one (.ow 224 0)), (4, vI k)] [] [(224, ⟨true, 5, (xs.take k).map fmC ++ List.replicate (xs.length - k) [T.int .i64 0, T.str [], T.sl 2 [], T.str [], T.sl 5 []], 0, true⟩)]) (fun k => k <= xs.length) (fun k => xs.length - k) 0 (zac ?_) ?_ ?_
 ·simp -implicitDefEqProofs only [go_sem]
  simp
 ·simp
 ·intro k hk
  by_cases hlt : k < xs.length
  ·have hlen : ((xs.take k).map fmC ++ List.replicate (xs.length - k) [T.int .i64 0, T.str [], T.sl 2 [], T.str [], T.sl 5 []]).length = xs.length := by simp; omega
   have hlt2 : k < k + (xs.length - k) := by omega
   simp -implicitDefEqProofs only [go_sem, List.length_map, zai, hlt, zab, zaa]
   refine callF (H xs[k] (List.getElem_mem hlt)) (by simp -implicitDefEqProofs only [go_sem, zab, zaa, hlen, hlt, List.length_append, List.length_map, List.length_take, List.length_replicate, Nat.min_eq_left hk, hlt2]) ?_
   simp -implicitDefEqProofs only [go_sem, zab, zaa, hlen, hlt, List.length_append, List.length_map, List.length_take, List.length_replicate, Nat.min_eq_left hk, hlt2]
   refine zhc (by simp -implicitDefEqProofs only [go_sem]; simp) ?_
   simp -implicitDefEqProofs only [go_sem]
   rw [zao (by omega)]
   refine ⟨k + 1, by omega, by omega, zac ?_⟩
   simp -implicitDefEqProofs only [go_sem]
   have hf := zgq ((xs.take k).map fmC) xs.length k [T.int .i64 0, T.str [], T.sl 2 [], T.str [], T.sl 5 []] (fmC xs[k]) (by simp; omega) hlt (by simp [zab, zaa])
   simp only [zab, zaa] at hf
   rw [hf, List.take_succ_eq_append_getElem hlt, List.map_append, List.map_singleton]
   simp only [zab, zaa]
  ·simp -implicitDefEqProofs only [go_sem, List.length_map, hlt]
   simp [List.take_of_length_le (show xs.length <= k by omega), show xs.length - k = 0 by omega]
set_option maxHeartbeats 400000 in
theorem zln (xs ys : List Fm) (H : ∀ x ∈ xs, ∀ y, FC Tryz.prog 19 [fmD x, fmD y] [bD (same x y)]) :
  FC Tryz.prog 70 [.one (fmS xs), .one (fmS ys)] [bD (same xs ys)] := by
 refine zdi (fun hw => ?_) Tryz.call70
 have hl : xs.length <= 9223372036854775807 := by simpa [zho, wfT] using hw.1.1
 have hl2 : ys.length <= 9223372036854775807 := by simpa [zho, wfT] using hw.2.1.1
 refine zam Tryz.call70 Tryz.func70 rfl (by kernel_rfl) (za1 (by kernel_rfl)) ?_
 simp -implicitDefEqProofs only [go_sem, Tryz.results70]
 refine ⟨fun h => ?_, fun h => ?_⟩
 ·rw [zea.2 (by rintro rfl; simp at h)]
 ·have hlen : xs.length = ys.length := by simp at h; omega
  refine zae (fun k : Nat => hd [(0, vT (fmS xs)), (1, vT (fmS ys)), (4, vB false), (5, vI k)] [] []) (fun k => k <= xs.length /\ same xs ys = same (xs.drop k) (ys.drop k)) (fun k => xs.length - k) 0 (zac ?_) ?_ ?_
  ·simp -implicitDefEqProofs only [go_sem]
  ·simp
  ·intro k ⟨hk, hr⟩
   by_cases hlt : k < xs.length
   ·have hk2 : k < ys.length := by omega
    simp -implicitDefEqProofs only [go_sem, List.length_map, hlt]
    refine drawn (by kernel_rfl) ?_
    simp -implicitDefEqProofs only [go_sem, List.length_map, zai, hlt, hk2, zab, zaa]
    refine za6 (H xs[k] (List.getElem_mem hlt) ys[k]) (by simp -implicitDefEqProofs only [go_sem, zab, zaa]) ?_
    simp -implicitDefEqProofs only [go_sem, zab, zaa]
    refine ⟨by kernel_rfl, fun h => ?_, fun h => ?_⟩
    ·rw [hr, List.drop_eq_getElem_cons hlt, List.drop_eq_getElem_cons hk2, zdz, show same xs[k] ys[k] = false by simpa using h]; rfl
    ·rw [List.drop_eq_getElem_cons hlt, List.drop_eq_getElem_cons hk2, zdz, show same xs[k] ys[k] = true by simpa using h, Bool.true_and] at hr
     rw [zao (by omega)]
     exact ⟨k + 1, ⟨by omega, hr⟩, by omega, zac (by simp -implicitDefEqProofs only [go_sem])⟩
   ·simp -implicitDefEqProofs only [go_sem, List.length_map, hlt]
    rw [hr, List.drop_of_length_le (by omega), List.drop_of_length_le (by omega), zlw]
set_option maxHeartbeats 400000 in
theorem zm7 (a : Fm) (H : ∀ l : Int, 0 <= l -> l <= 1048576 -> FC Tryz.prog 55 [.one (fmS a.parts), iD l] [iD (szR (zp7 a.parts) l)]) (l : Int) (h0 : 0 <= l) (h1 : l <= 1048576) :
  FC Tryz.prog 13 [fmD a, iD l] [iD (szR a.wt l)] := by
 refine zdi (fun hw => ?_) Tryz.call13
 simp only [fmD, zab, zaa] at hw ⊢
 have hW := a.wt_eq
 have hls : a.var.length <= 9223372036854775807 /\ True := by simp [zho, wfT, zr2] at hw; simp [hw]
 refine zam Tryz.call13 Tryz.func13 rfl (by kernel_rfl) (za1 (by kernel_rfl)) ?_
 simp -implicitDefEqProofs only [go_sem, Tryz.results13]
 refine callF (zq1 a.atom l (by omega) (by omega)) (by simp -implicitDefEqProofs only [go_sem, zab, zaa, zaa]) ?_
 simp -implicitDefEqProofs only [go_sem, zab, zaa, zaa]
 refine ⟨fun h1 => ?_, fun h1 => ?_⟩
 ·have := zg4 (by omega) (show szR a.atom.wt l < 0 by simpa using h1)
  rw [zdf (by have hu0 : zp7 a.parts = a.parts.length + (a.parts.map Fm.wt).sum := rfl;  omega)]
 obtain ⟨k1, j1⟩ := ze5 (show ¬ szR a.atom.wt l < 0 by simpa using h1)
 rw [zbp (by omega) (by omega)]
 refine ⟨fun h2 => ?_, fun h2 => ?_⟩
 ·rw [zdf (by simp at h2; have hu0 : zp7 a.parts = a.parts.length + (a.parts.map Fm.wt).sum := rfl;  omega)]
 have k2 : (a.var.length : Int) <= (szR a.atom.wt l) := by simp at h2; omega
 refine callF (H ((szR a.atom.wt l) - (a.var.length : Int)) (by omega) (by omega)) (by simp -implicitDefEqProofs only [go_sem, zab, zaa]) ?_
 simp -implicitDefEqProofs only [go_sem, zab, zaa]
 refine ⟨fun h3 => ?_, fun h3 => ?_⟩
 ·have := zg4 (by omega) (show szR (zp7 a.parts) ((szR a.atom.wt l) - (a.var.length : Int)) < 0 by simpa using h3)
  rw [zdf (by have hu0 : zp7 a.parts = a.parts.length + (a.parts.map Fm.wt).sum := rfl;  omega)]
 obtain ⟨k3, j3⟩ := ze5 (show ¬ szR (zp7 a.parts) ((szR a.atom.wt l) - (a.var.length : Int)) < 0 by simpa using h3)
 rw [show szR a.wt l = l - a.wt from zok (by have hu0 : zp7 a.parts = a.parts.length + (a.parts.map Fm.wt).sum := rfl;  omega)]; exact zwa (by have hu0 : zp7 a.parts = a.parts.length + (a.parts.map Fm.wt).sum := rfl;  omega)
set_option maxHeartbeats 400000 in
theorem zoi (a : Fm) (H : FC Tryz.prog 59 [.one (fmS a.parts)] [.one (fmS a.parts)]) (hs : a.wt <= 1048576) : FC Tryz.prog 16 [fmD a] [fmD a] := by
 have hW := a.wt_eq
 simp only [fmD, zab, zaa]
 refine zam Tryz.call16 Tryz.func16 rfl (by kernel_rfl) (za1 (by kernel_rfl)) ?_
 simp -implicitDefEqProofs only [go_sem, Tryz.results16]
 refine callF (zr8 a.atom (by have hu0 : zp7 a.parts = a.parts.length + (a.parts.map Fm.wt).sum := rfl;  omega)) (by simp -implicitDefEqProofs only [go_sem, zab, zaa, zaa]) ?_
 simp -implicitDefEqProofs only [go_sem, zab, zaa, zaa]
 refine callF (H) (by simp -implicitDefEqProofs only [go_sem, zab, zaa]) ?_
 simp -implicitDefEqProofs only [go_sem, zab, zaa]
set_option maxHeartbeats 400000 in
theorem zmp (a b : Fm) (H : FC Tryz.prog 70 [.one (fmS a.parts), .one (fmS b.parts)] [bD (same a.parts b.parts)]) : FC Tryz.prog 19 [fmD a, fmD b] [bD (same a b)] := by
 simp only [fmD, zab, zaa]
 refine zam Tryz.call19 Tryz.func19 rfl (by kernel_rfl) (za1 (by kernel_rfl)) ?_
 simp -implicitDefEqProofs only [go_sem, Tryz.results19]
 refine ⟨fun h1 => ?_, fun h1 => ?_⟩
 ·rw [zea.2 (by rintro rfl; simp [zbe] at h1)]
 refine callF (zrl a.atom b.atom) (by simp -implicitDefEqProofs only [go_sem, zab, zaa, zaa]) ?_
 simp -implicitDefEqProofs only [go_sem, zab, zaa, zaa]
 refine ⟨fun h2 => ?_, fun h2 => ?_⟩
 ·rw [zea.2 (by rintro rfl; simp [zbe] at h2)]
 refine ⟨fun h3 => ?_, fun h3 => ?_⟩
 ·rw [zea.2 (by rintro rfl; simp [zbe] at h3)]
 refine callF (H) (by simp -implicitDefEqProofs only [go_sem, zab, zaa]) ?_
 simp -implicitDefEqProofs only [go_sem, zab, zaa]
 refine ⟨fun h4 => ?_, fun h4 => ?_⟩
 ·rw [zea.2 (by rintro rfl; simp [zbe] at h4)]
 rw [zeg.2 (by cases a; cases b; simp [zeg, Fm.op, Fm.atom, Fm.var, Fm.parts] at h1 h2 h3 h4 ⊢; simp [h1, h2, h3, h4])]
theorem zqi : ∀ a : Fm, ∀ l : Int, 0 <= l -> l <= 1048576 -> FC Tryz.prog 13 [fmD a, iD l] [iD (szR a.wt l)] :=
 zba fun b0 b1 b2 xs ih l h0 h1 => zm7 (.mk b0 b1 b2 xs) (fun l h0 h1 => zl8 xs ih l h0 h1) l h0 h1
theorem zo8 : ∀ a : Fm, a.wt <= 1048576 -> FC Tryz.prog 16 [fmD a] [fmD a] := by
 refine zba fun b0 b1 b2 xs ih hs => ?_
 have hW := Fm.wt_eq (.mk b0 b1 b2 xs)
 simp only [Fm.op, Fm.atom, Fm.var, Fm.parts] at hW
 refine zoi _ (zkq xs (fun x hx => ih x hx ?_) (by omega)) hs
 have := zbl Fm.wt xs x hx
 omega
theorem zio : ∀ a b : Fm, FC Tryz.prog 19 [fmD a, fmD b] [bD (same a b)] :=
 zba fun b0 b1 b2 xs ih b => zmp (.mk b0 b1 b2 xs) b (zln xs b.parts ih)
end Go.Proofs.YtbccfiillleimaaGreat
namespace Go.Proofs.YtbccfiillleimaaGreat
set_option linter.unusedSimpArgs false
set_option linter.unusedVariables false
set_option linter.unusedSectionVars false
set_option maxRecDepth 4000
open Go.RowKit
def zfe (b : UInt8) : Bool := decide (97 <= (b.toNat : Int)) && decide ((b.toNat : Int) <= 122)
def qb9 (b : UInt8) : Bool := decide (48 <= (b.toNat : Int)) && decide ((b.toNat : Int) <= 57)
def zjf (b : UInt8) : Bool := decide (65 <= (b.toNat : Int)) && decide ((b.toNat : Int) <= 90)
def zl9 (b : UInt8) : Bool := zfe b || qb9 b
abbrev uD (b : UInt8) : D := .one (.int .u8 b.toNat)
theorem zf3 (b : UInt8) : FC Tryz.prog 246 [uD b] [bD (zfe b)] := by
 unfold zfe
 refine zam Tryz.call246 Tryz.func246 rfl (by kernel_rfl) (za1 (by kernel_rfl)) ?_
 simp -implicitDefEqProofs only [go_sem, Tryz.results246]
 refine ⟨fun h => ?_, fun h => ?_⟩ <;> simp at h ⊢ <;> omega
theorem zn3 (b : UInt8) : FC Tryz.prog 247 [uD b] [bD (qb9 b)] := by
 unfold qb9
 refine zam Tryz.call247 Tryz.func247 rfl (by kernel_rfl) (za1 (by kernel_rfl)) ?_
 simp -implicitDefEqProofs only [go_sem, Tryz.results247]
 refine ⟨fun h => ?_, fun h => ?_⟩ <;> simp at h ⊢ <;> omega
theorem zm8 (b : UInt8) : FC Tryz.prog 239 [uD b] [bD (zjf b)] := by
 unfold zjf
 refine zam Tryz.call239 Tryz.func239 rfl (by kernel_rfl) (za1 (by kernel_rfl)) ?_
 simp -implicitDefEqProofs only [go_sem, Tryz.results239]
 refine ⟨fun h => ?_, fun h => ?_⟩ <;> simp at h ⊢ <;> omega
def inB (n lo hi : Int) : Bool := decide (lo <= n) && decide (n <= hi)
theorem zrk (n lo hi : Int) : FC Tryz.prog 248 [iD n, iD lo, iD hi] [bD (inB n lo hi)] := by
 unfold inB
 refine zam Tryz.call248 Tryz.func248 rfl (by kernel_rfl) (za1 (by kernel_rfl)) ?_
 simp -implicitDefEqProofs only [go_sem, Tryz.results248]
 refine ⟨fun h => ?_, fun h => ?_⟩ <;> simp at h ⊢ <;> omega
theorem qex (n lo hi : Int) : FC Tryz.prog 242 [iD n, iD lo, iD hi] [bD (inB n lo hi)] := by
 unfold inB
 refine zam Tryz.call242 Tryz.func242 rfl (by kernel_rfl) (za1 (by kernel_rfl)) ?_
 simp -implicitDefEqProofs only [go_sem, Tryz.results242]
 refine ⟨fun h => ?_, fun h => ?_⟩ <;> simp at h ⊢ <;> omega
theorem qbj (a b : Int) : FC Tryz.prog 265 [iD a, iD b] [iD (max a b)] := by
 refine zam Tryz.call265 Tryz.func265 rfl (by kernel_rfl) (za1 (by kernel_rfl)) ?_
 simp -implicitDefEqProofs only [go_sem, Tryz.results265]
 refine ⟨fun h => ?_, fun h => ?_⟩ <;> simp at h <;> exact zwa (by omega)
theorem znk (b : UInt8) : FC Tryz.prog 243 [uD b] [bD (zl9 b)] := by
 unfold zl9 zfe qb9
 refine zam Tryz.call243 Tryz.func243 rfl (by kernel_rfl) (za1 (by kernel_rfl)) ?_
 simp -implicitDefEqProofs only [go_sem, Tryz.results243]
 simp only [T.bool.injEq, decide_eq_true_eq, decide_eq_false_iff_not]
 refine ⟨fun h => ⟨fun h2 => ⟨fun h3 => ?_, fun h3 => ?_⟩, fun h2 => ?_⟩, fun h => ⟨fun h2 => ?_, fun h2 => ?_⟩⟩ <;> simp [h, h2] <;> omega
def zp6 : Str -> Bool
 | [] => true
 | c :: cs => zjf c && cs.all zl9
def za2 (s : Str) : Bool := zp6 s && inB s.length 1 4
theorem zfb (s : Str) : FC Tryz.prog 208 [sD s] [bD (za2 s)] := by
 refine zdi (fun hw => ?_) Tryz.call208
 have hl : s.length <= 9223372036854775807 := by simpa [zho, wfT] using hw.1
 refine zam Tryz.call208 Tryz.func208 rfl (by kernel_rfl) (za1 (by kernel_rfl)) ?_
 simp -implicitDefEqProofs only [go_sem, Tryz.results208]
 refine zae (fun k : Nat => hd [(0, vT (.str s)), (5, vI s.length), (6, vI k)] [] []) (fun k => k <= s.length /\ zp6 s = if k = 0 then zp6 s else (s.drop k).all zl9) (fun k => s.length - k) 0 (zac ?_) ?_ ?_
 ·simp -implicitDefEqProofs only [go_sem]
 ·simp
 ·intro k ⟨hk, hr⟩
  by_cases hlt : k < s.length
  ·by_cases h0 : k = 0
   ·subst h0
    have hl0 : (0 : Int) < s.length := by omega
    have he : zp6 s = (zjf (s.getD 0 0) && (s.drop 1).all zl9) := by cases s; exact absurd hlt (by simp); rfl
    simp -implicitDefEqProofs only [go_sem, hlt, hl0]
    refine callF (zm8 (s.getD 0 0)) (by simp -implicitDefEqProofs only [go_sem]) ?_
    simp -implicitDefEqProofs only [go_sem]
    refine ⟨fun h => ⟨1, ⟨hlt, ?_⟩, by omega, zac (by simp -implicitDefEqProofs only [go_sem]; rw [zbp (by omega) (by omega)])⟩, fun h => ?_⟩
    ·have : zjf (s.getD 0 0) = true := by simpa using h
     rw [he, this]; rfl
    ·have : zjf (s.getD 0 0) = false := by simpa using h
     rw [za2, he, this]; rfl
   ·have h1 : ((k : Int) == 0) = false := by simp; omega
    have h2 : (0 : Int) < k := by omega
    have hg : s.getD k 0 = s[k] := by simp [List.getD, hlt]
    rw [if_neg h0, List.drop_eq_getElem_cons hlt, List.all_cons] at hr
    simp -implicitDefEqProofs only [go_sem, hlt, h1, h2]
    refine callF (zf3 (s.getD k 0)) (by simp -implicitDefEqProofs only [go_sem]) ?_
    simp -implicitDefEqProofs only [go_sem]
    simp only [hg]
    refine ⟨fun h => ⟨hlt, ?_⟩, fun h => ?_⟩
    ·refine callF (zn3 s[k]) (by simp -implicitDefEqProofs only [go_sem]) ?_
     simp -implicitDefEqProofs only [go_sem]
     refine ⟨fun h' => ?_, fun h' => ⟨k + 1, ⟨hlt, ?_⟩, by omega, zac (by simp -implicitDefEqProofs only [go_sem]; rw [zao (by omega)])⟩⟩
     ·have : zl9 s[k] = false := by simp [zl9]; simp at h h'; exact ⟨h, h'⟩
      simp [za2, hr, this]
     ·have : zl9 s[k] = true := by simp [zl9]; right; simpa using h'
      rw [hr, this]; simp
    ·refine ⟨k + 1, ⟨hlt, ?_⟩, by omega, zac (by simp -implicitDefEqProofs only [go_sem]; rw [zao (by omega)])⟩
     have : zl9 s[k] = true := by simp [zl9]; left; simpa using h
     rw [hr, this]; simp
  ·simp -implicitDefEqProofs only [go_sem, hlt]
   refine callF (zrk s.length 1 4) (by simp -implicitDefEqProofs only [go_sem]) ?_
   simp -implicitDefEqProofs only [go_sem]
   have : zp6 s = true := by
    by_cases h0 : k = 0
    ·have : s = [] := List.length_eq_zero_iff.1 (by omega)
     rw [this]; rfl
    ·rw [hr, if_neg h0, List.drop_of_length_le (by omega)]; rfl
   simp [za2, this]
end Go.Proofs.YtbccfiillleimaaGreat
namespace Go.Proofs.YtbccfiillleimaaGreat
set_option linter.unusedSimpArgs false
set_option linter.unusedVariables false
set_option linter.unusedSectionVars false
set_option maxRecDepth 4000
open Go.RowKit
abbrev zb2 (xs : List Str) : T := .sl 1 (xs.map fun s => [.str s])
theorem zmr {α : Type} [BEq α] [LawfulBEq α] {xs : List α} {s : α} {k : Nat} (hk : k < xs.length) (hn : s ∉ xs.take k) (e : xs[k] = s) : xs.idxOf s = k := by
 have h : xs = xs.take k ++ xs.drop k := (List.take_append_drop k xs).symm
 rw [List.drop_eq_getElem_cons hk] at h
 rw [h, List.idxOf_append, if_neg hn, e]
 rw [show (s :: xs.drop (k + 1)).idxOf s = 0 from List.idxOf_cons_self ..]
 simp; omega
theorem zeh {α : Type} {xs : List α} {s : α} {k : Nat} (hk : k < xs.length) (hn : s ∉ xs.take k) (e : xs[k] ≠ s) : s ∉ xs.take (k + 1) := by
 rw [List.take_succ_eq_append_getElem hk]
 simp only [List.mem_append, List.mem_singleton, not_or]
 exact ⟨hn, fun h => e h.symm⟩
def qef {α : Type} [BEq α] (xs : List α) (s : α) : Int := if xs.contains s then xs.idxOf s else -1
theorem zs3 (xs : List Str) (s : Str) : FC Tryz.prog 203 [.one (zb2 xs), sD s] [iD (qef xs s)] := by
 refine zdi (fun hw => ?_) Tryz.call203
 have hl : xs.length <= 9223372036854775807 := by simpa [zho, wfT] using hw.1.1
 refine zam Tryz.call203 Tryz.func203 rfl (by kernel_rfl) (za1 (by kernel_rfl)) ?_
 simp -implicitDefEqProofs only [go_sem, Tryz.results203]
 refine zae (fun k : Nat => hd [(0, vT (zb2 xs)), (1, vT (.str s)), (7, vI xs.length), (8, vI k)] [] []) (fun k => k <= xs.length /\ s ∉ xs.take k) (fun k => xs.length - k) 0 (zac ?_) ?_ ?_
 ·simp -implicitDefEqProofs only [go_sem]
 ·simp
 ·intro k ⟨hk, hr⟩
  by_cases hlt : k < xs.length
  ·simp -implicitDefEqProofs only [go_sem, zai, hlt]
   refine ⟨fun h => ?_, fun h => ?_⟩
   ·have e : xs[k] = s := (beq_iff_eq.1 h).symm
    have hm : s ∈ xs := e ▸ List.getElem_mem hlt
    rw [qef, if_pos (by simpa using hm), zmr hlt hr e]
   ·have e : xs[k] ≠ s := fun e => by simp [e] at h
    exact ⟨k + 1, ⟨hlt, zeh hlt hr e⟩, by omega, zac (by simp -implicitDefEqProofs only [go_sem]; rw [zao (by omega)])⟩
  ·simp -implicitDefEqProofs only [go_sem, hlt]
   rw [List.take_of_length_le (by omega)] at hr
   rw [qef, if_neg (by simpa using hr)]
theorem zc9 (xs : List Str) (s : Str) : FC Tryz.prog 149 [.one (zb2 xs), sD s] [bD (xs.contains s)] := by
 refine zam Tryz.call149 Tryz.func149 rfl (by kernel_rfl) (za1 (by kernel_rfl)) ?_
 simp -implicitDefEqProofs only [go_sem, Tryz.results149]
 refine callF (zs3 xs s) (by simp -implicitDefEqProofs only [go_sem]) ?_
 simp -implicitDefEqProofs only [go_sem]
 unfold qef
 cases h : xs.contains s <;> simp
def zpk : List Str := [[116, 114, 117, 101], [102, 97, 108, 115, 101], [116, 114, 117, 116, 104], [98, 111, 116, 104], [101, 105, 116, 104, 101, 114], [105, 102], [97, 108, 108], [115, 111, 109, 101]]
theorem zs7 : FC Tryz.prog 261 [] [.one (zb2 zpk)] := by
 refine zam Tryz.call261 Tryz.func261 rfl (by kernel_rfl) (za1 (by kernel_rfl)) ?_
 simp -implicitDefEqProofs only [go_sem, Tryz.results261]
 refine zbm (by simp -implicitDefEqProofs only [go_sem]) ?_
 simp -implicitDefEqProofs only [go_sem]
 rfl
def zls (b : UInt8) : Bool := zl9 b || b == 95
def zis : Str -> Bool
 | [] => true
 | c :: cs => zfe c && cs.all zls
def zcg (s : Str) : Bool := zis s && inB s.length 1 6 && !zpk.contains s
theorem qfu {b : UInt8} {n : Nat} (hn : n < 256) : ((b.toNat : Int) == (n : Int)) = (b == UInt8.ofNat n) := by
 rw [Bool.eq_iff_iff]
 simp only [beq_iff_eq]
 constructor
 ·intro h
  apply UInt8.toNat_inj.1
  simp [UInt8.toNat_ofNat]
  omega
 ·intro h
  subst h
  simp [UInt8.toNat_ofNat]
  omega
theorem zjy (s : Str) : FC Tryz.prog 237 [sD s] [bD (zcg s)] := by
 refine zdi (fun hw => ?_) Tryz.call237
 have hl : s.length <= 9223372036854775807 := by simpa [zho, wfT] using hw.1
 refine zam Tryz.call237 Tryz.func237 rfl (by kernel_rfl) (za1 (by kernel_rfl)) ?_
 simp -implicitDefEqProofs only [go_sem, Tryz.results237]
 refine zae (fun k : Nat => hd [(0, vT (.str s)), (5, vI s.length), (6, vI k)] [] []) (fun k => k <= s.length /\ zis s = if k = 0 then zis s else (s.drop k).all zls) (fun k => s.length - k) 0 (zac ?_) ?_ ?_
 ·simp -implicitDefEqProofs only [go_sem]
 ·simp
 ·intro k ⟨hk, hr⟩
  by_cases hlt : k < s.length
  ·by_cases h0 : k = 0
   ·subst h0
    have hl0 : (0 : Int) < s.length := by omega
    have he : zis s = (zfe (s.getD 0 0) && (s.drop 1).all zls) := by cases s; exact absurd hlt (by simp); rfl
    simp -implicitDefEqProofs only [go_sem, hlt, hl0]
    refine callF (zf3 (s.getD 0 0)) (by simp -implicitDefEqProofs only [go_sem]) ?_
    simp -implicitDefEqProofs only [go_sem]
    refine ⟨fun h => ⟨hl0, ?_⟩, fun h => ?_⟩
    ·have hi : zfe (s.getD 0 0) = true := by simpa using h
     refine callF (zf3 (s.getD 0 0)) (by simp -implicitDefEqProofs only [go_sem, hi]) ?_
     simp -implicitDefEqProofs only [go_sem, hi]
     refine ⟨1, ⟨hlt, ?_⟩, by omega, zac (by simp -implicitDefEqProofs only [go_sem]; rw [zbp (by omega) (by omega)])⟩
     rw [he, hi]; rfl
    ·have : zfe (s.getD 0 0) = false := by simpa using h
     rw [zcg, he, this]; rfl
   ·have h1 : ((k : Int) == 0) = false := by simp; omega
    have h2 : (0 : Int) < k := by omega
    have hg : s.getD k 0 = s[k] := by simp [List.getD, hlt]
    rw [if_neg h0, List.drop_eq_getElem_cons hlt, List.all_cons] at hr
    simp -implicitDefEqProofs only [go_sem, hlt, h1, h2]
    refine callF (zf3 (s.getD k 0)) (by simp -implicitDefEqProofs only [go_sem]) ?_
    simp -implicitDefEqProofs only [go_sem]
    simp only [hg]
    refine ⟨fun h => ⟨hlt, ?_⟩, fun h => ?_⟩
    ·refine callF (zn3 s[k]) (by simp -implicitDefEqProofs only [go_sem]) ?_
     simp -implicitDefEqProofs only [go_sem]
     simp only [hg]
     refine ⟨fun h' => ⟨hlt, fun h'' => ?_, fun h'' => ⟨k + 1, ⟨hlt, ?_⟩, by omega, zac (by simp -implicitDefEqProofs only [go_sem]; rw [zao (by omega)])⟩⟩, fun h' => ⟨k + 1, ⟨hlt, ?_⟩, by omega, zac (by simp -implicitDefEqProofs only [go_sem]; rw [zao (by omega)])⟩⟩
     ·have : zls s[k] = false := by
       have := qfu (b := s[k]) (n := 95) (by omega)
       simp [zls, zl9] at h h' ⊢
       refine ⟨⟨h, h'⟩, fun e => ?_⟩
       rw [e] at h''
       simp at h''
      rw [zcg, hr, this]; rfl
     ·have : zls s[k] = true := by
       have := qfu (b := s[k]) (n := 95) (by omega)
       simp [zls] at h'' ⊢
       right
       simpa [h''] using this
      rw [hr, this]; rfl
     ·have : zls s[k] = true := by simp [zls, zl9]; simp at h'; simp [h']
      rw [hr, this]; rfl
    ·refine ⟨k + 1, ⟨hlt, ?_⟩, by omega, zac (by simp -implicitDefEqProofs only [go_sem]; rw [zao (by omega)])⟩
     have : zls s[k] = true := by simp [zls, zl9]; simp at h; simp [h]
     rw [hr, this]; rfl
  ·simp -implicitDefEqProofs only [go_sem, hlt]
   refine callF (zrk s.length 1 6) (by simp -implicitDefEqProofs only [go_sem]) ?_
   simp -implicitDefEqProofs only [go_sem]
   have ha : zis s = true := by
    by_cases h0 : k = 0
    ·have : s = [] := List.length_eq_zero_iff.1 (by omega)
     rw [this]; rfl
    ·rw [hr, if_neg h0, List.drop_of_length_le (by omega)]; rfl
   refine ⟨fun h => ?_, fun h => ?_⟩
   ·refine callF (zs7) (by simp -implicitDefEqProofs only [go_sem]) ?_
    simp -implicitDefEqProofs only [go_sem]
    refine callF (zc9 zpk s) (by simp -implicitDefEqProofs only [go_sem]) ?_
    simp -implicitDefEqProofs only [go_sem]
    rw [zcg, ha, h]; rfl
   ·rw [zcg, ha, h]; rfl
end Go.Proofs.YtbccfiillleimaaGreat
namespace Go.Proofs.YtbccfiillleimaaGreat
set_option linter.unusedSimpArgs false
set_option linter.unusedVariables false
set_option linter.unusedSectionVars false
set_option maxRecDepth 4000
open Go.RowKit Go.Sort Go.Proofs
variable {P : Program}
theorem zma {w : World} : ∀ {ss : List Str} {vs : List Value} {fps : List Nat}, zas w (ss.map T.str) vs fps -> vs = ss.map encStr /\ fps = [] /\ ∀ s ∈ ss, s.length <= zed
 | [], vs, fps, h => ⟨h.1, h.2, by simp⟩
 | s :: ss, vs, fps, h => by
  obtain ⟨v, vs', f1, f2, rfl, rfl, h1, h2⟩ := h
  unfold zat at h1
  obtain ⟨rfl, k1, rfl⟩ := h1
  obtain ⟨rfl, rfl, k2⟩ := zma h2
  exact ⟨rfl, rfl, fun x hx => (List.mem_cons.1 hx).elim (fun e => e ▸ k1) (k2 x)⟩
theorem zl4 {w : World} : ∀ {ss : List Str}, (∀ s ∈ ss, s.length <= zed) -> zas w (ss.map T.str) (ss.map encStr) []
 | [], _ => ⟨rfl, rfl⟩
 | s :: ss, h => ⟨_, _, [], [], rfl, rfl, by unfold zat; exact ⟨rfl, h s (by simp), rfl⟩, zl4 fun x hx => h x (by simp [hx])⟩
theorem zez (ss : List Str) : (ss.map fun s => [T.str s]).flatten = ss.map T.str := by induction ss <;> simp_all
theorem znj (ss : List Str) : lens 1 (ss.map fun s => [T.str s]) := fun r hr => by obtain ⟨s, _, rfl⟩ := List.mem_map.1 hr; rfl
abbrev zdj (ss : List Str) : List Str := ss.mergeSort leB
theorem qgf {f : FuncId} (hc : za0 P f) (hS : ∀ (blk off cap : Nat) (ss : List (List UInt8)) (w : World), Holds encStr w blk off ss.toArray -> blk < w.heap.size -> ss.length < 4611686018427387904 →
   Calls P f #[.slice (some ⟨blk, off, none⟩) ss.length cap] w fun e w' => e = .returned (.tuple #[]) /\ ∃ n os, w' = grow (putRow encStr (Sort.ahead w n) blk off (ss.mergeSort fun x y => decide (x <= y)).toArray) os)
  (hN : ∀ (p : Option Addr) (cap : Nat) (w : World), Calls P f #[.slice p 0 cap] w fun e w' => e = .returned (.tuple #[]) /\ w' = w) (ss : List Str) (hl : ss.length < 4611686018427387904) : IC P f [] (.one (zb2 ss)) [] (.one (zb2 (zdj ss))) [] := by
 refine ⟨hc, fun w us1 v us2 fp tp h1 hg h2 hn => ?_⟩
 rw [show us1 = [] from h1, show us2 = [] from h2]
 obtain ⟨hg, _⟩ := hg
 unfold zat at hg
 obtain ⟨ao, cap, rfl, q1, q2, q3⟩ := hg
 rw [List.length_map] at q1 ⊢
 rcases q3 with ⟨rfl, rfl, q3, rfl⟩ | ⟨b, cells, ty, fps, rfl, rfl, q3, q4, q5⟩
 ·have hs : ss = [] := List.map_eq_nil_iff.1 q3
  subst hs
  refine (hN none 0 w).mono ?_
  rintro e w' ⟨rfl, rfl⟩
  refine ⟨[], [], [], rfl, ⟨_, [], [], [], [], [], rfl, rfl, rfl, ⟨?_, rfl⟩, rfl, rfl, rfl⟩, List.nodup_nil, by simp, Bk.refl _ _⟩
  unfold zat
  exact ⟨none, 0, by simp [zdj], by simp [zdj], by simp, Or.inl ⟨rfl, rfl, by simp [zdj], rfl⟩⟩
 ·obtain ⟨_, vs, k1, k2, k3⟩ := q5.vals
  rw [zez] at k3
  obtain ⟨rfl, rfl, k4⟩ := zma k3
  have hsz : ss.length <= cells.size := by omega
  have ht : cells.toList.take ss.length = ss.map encStr := by
   apply List.ext_getElem?
   intro j
   by_cases hj : j < ss.length
   ·rw [List.getElem?_take_of_lt hj, Array.getElem?_toList]
    have := k2 j _ (List.getElem?_eq_getElem (by simpa using hj))
    rw [Nat.zero_add] at this
    rw [this, List.getElem?_eq_getElem (by simpa using hj)]
   ·rw [List.getElem?_take_eq_none (by omega), List.getElem?_eq_none (by simp; omega)]
  refine (hS b 0 cap ss w (holds_of_block q3 ht) (Array.getElem?_eq_some_iff.1 q3).1 hl).mono ?_
  rintro e w' ⟨rfl, n, os, rfl⟩
  have hgr := grownBy_sorted (w := w) (g := b) (n := n) (os := os) (ss.mergeSort fun x y => decide (x <= y)).toArray
  have hlen : (zdj ss).length = ss.length := by simp [zdj]
  have htk := take_putCells cells (zdj ss) (by omega)
  refine ⟨[], [b], [b], rfl, ⟨_, [], [b], [], [b], [], rfl, rfl, rfl, ⟨?_, rfl⟩, rfl, rfl, rfl⟩, by simp, fun x hx => Or.inl hx, ⟨hgr.os, hgr.tape, hgr.output, hgr.size, fun k hk => hgr.block k hk.1 fun e => hk.2 (by cases e; simp)⟩⟩
  unfold zat
  refine ⟨_, cap, by rw [List.length_map, hlen], by rw [List.length_map, hlen]; exact q1, q2, Or.inr ⟨b, _, ty, [], rfl, rfl, heap_sorted _ q3, by simp [putCells, q4], ?_⟩⟩
  refine zag.of_vals (znj _) (by rw [zez]; exact zl4 fun s hs => k4 s ((List.mergeSort_perm ss leB).mem_iff.1 hs)) fun j u hu => ?_
  rw [<- htk, List.getElem?_take] at hu
  split at hu
  ·simpa using hu
  ·cases hu
structure CloneOf (P : Program) (f : FuncId) (sz bytes : Nat) : Prop where
 call : za0 P f
 old : ∀ (ad : Addr) (n c : Nat) (news : List Value) (w : World), news.length = n * sz -> n <= maxLen -> n * bytes <= 140737488355328 -> (∀ j u, news[j]? = some u -> w.cell? (ad.add j) = some u) -> (∀ u ∈ news, u.oneCell' = true) →
  Calls P f #[.slice (some ad) n c] w fun e w' => ∃ t v', e = .returned v' /\ w'.ownsRow w.heap.size t sz v' n news /\ v' ≠ .slice none 0 0 /\ Below w.heap.size w w'
 none : ∀ (n c : Nat) (w : World), Calls P f #[.slice none n c] w fun e w' => e = .returned (.slice none 0 0) /\ w' = w
theorem zal.valsA {w : World} {A : Nat -> Prop} {b sz : Nat} {rows : List (List T)} {o : Nat} (h : zal w A b o sz rows) : ∃ vs, vs.length = rows.length * sz /\ (∀ j u, vs[j]? = some u -> w.cell? ⟨b, o + j, none⟩ = some u) /\ zad w A rows.flatten vs /\ lens sz rows := by
 obtain ⟨h1, vs, h2, h3, h4⟩ := h.vals
 exact ⟨vs, h2, h3, h4, h1⟩
theorem zwh {f : FuncId} {sz bytes : Nat} (h : CloneOf P f sz bytes) (rows : List (List T)) (hb : rows.length * bytes <= 140737488355328) {w : World} {A : Nat -> Prop} {v : Value} (h1 : zak w A (.sl sz rows) v) :
  Calls P f #[v] w fun e w' => ∃ v', e = .returned v' /\ Below w.heap.size w w' /\ ((v' = .slice none 0 0 /\ rows = []) \/ ∃ g cap cur ty vs, v' = .slice (some ⟨g, 0, none⟩) rows.length cap /\ w.heap.size <= g /\ w'.heap[g]? = some (.cells cur ty (0, 0)) /\ rows.length <= cap /\ cap <= zed /\ cur.size = cap * sz /\ cur.toList.take (rows.length * sz) = vs /\ zad w A rows.flatten vs /\ lens sz rows) := by
 unfold zak at h1
 obtain ⟨ao, cap, rfl, q1, q2, q3⟩ := h1
 cases ao with
 | none =>
  have hr : rows = [] := q3.resolve_right fun ⟨b, o, e, _⟩ => by cases e
  refine (h.none rows.length cap w).mono ?_
  rintro e w' ⟨rfl, rfl⟩
  exact ⟨_, rfl, Below.refl _ _, Or.inl ⟨rfl, hr⟩⟩
 | some ad =>
  have hx : ∃ news : List Value, news.length = rows.length * sz /\ (∀ j u, news[j]? = some u -> w.cell? (ad.add j) = some u) /\ zad w A rows.flatten news /\ lens sz rows := by
   rcases q3 with rfl | ⟨b', o', e, _, q4⟩
   ·exact ⟨[], by simp, fun j u hj => by simp at hj, by unfold zad; rfl, fun r hr => by simp at hr⟩
   ·cases e
    obtain ⟨news, k1, k2, k3, k4⟩ := q4.valsA
    exact ⟨news, k1, fun j u hj => by rw [zef]; exact k2 j u hj, k3, k4⟩
  obtain ⟨news, k1, k2, k3, k4⟩ := hx
  refine (h.old ad rows.length cap news w k1 (by unfold maxLen; have := q2; unfold zed at this; omega) hb k2 k3.one).mono ?_
  rintro e w' ⟨t, v', rfl, ⟨o1, o2⟩, hn, hbel⟩
  refine ⟨v', rfl, hbel, Or.inr ?_⟩
  rcases o2 with ⟨e, _⟩ | ⟨g, cap', cur, e, p1, p2, p3, p4, p5, p6⟩
  ·exact absurd e hn
  ·exact ⟨g, cap', cur, t, news, e, p1, p2, p3, by unfold maxLen at p4; omega, p5, p6, k3, k4⟩
theorem qft {cur : Array Value} {vs : List Value} {n : Nat} (h : cur.toList.take n = vs) : ∀ j u, vs[j]? = some u -> cur[0 + j]? = some u := fun j u hu => by
 rw [<- h, List.getElem?_take] at hu
 split at hu
 ·simpa using hu
 ·cases hu
theorem qa2 {f : FuncId} {sz bytes : Nat} (h : CloneOf P f sz bytes) (rows : List (List T)) (hb : rows.length * bytes <= 140737488355328) (hf : ∀ c ∈ rows.flatten, c.flat = true) : FC P f [.one (.sl sz rows)] [.one (.sl sz rows)] := by
 refine ⟨h.call, fun w vs fp tp hv hn => ?_⟩
 obtain ⟨hr, rfl, rfl⟩ := zcd hv
 obtain ⟨v, _, rfl, h1, rfl⟩ := hr
 refine (zwh h rows hb h1).mono ?_
 rintro e w' ⟨v', rfl, hbel, hh⟩
 have hB : Bk (fun k => k < w.heap.size /\ k ∉ ([] : List Nat)) w w' := ⟨hbel.os, hbel.tape, hbel.output, hbel.size, fun k hk => hbel.block k hk.1⟩
 rcases hh with ⟨rfl, hr⟩ | ⟨g, cap, cur, ty, vs, rfl, p1, p2, p3, p4, p5, p6, p7, p8⟩
 ·subst hr
  refine ⟨[_], [], [], rfl, ⟨_, [], [], [], [], [], rfl, rfl, rfl, ⟨?_, rfl⟩, rfl, rfl, rfl⟩, List.nodup_nil, by simp, hB⟩
  unfold zat
  exact ⟨Option.none, 0, rfl, Nat.le_refl _, by simp, Or.inl ⟨rfl, rfl, rfl, rfl⟩⟩
 ·refine ⟨[_], [g], [g], rfl, ⟨_, [], [g], [], [g], [], rfl, rfl, rfl, ⟨?_, rfl⟩, rfl, rfl, rfl⟩, by simp, fun b hb => by rw [List.mem_singleton.1 hb]; exact Or.inr p1, hB⟩
  unfold zat
  refine ⟨_, cap, rfl, p3, p4, Or.inr ⟨g, cur, ty, [], rfl, rfl, p2, p5, ?_⟩⟩
  have hown := zad.own p7 hf
  exact zag.of_vals p8 (zas.keep hown fun b hb => by simp at hb) fun j u hu => qft p6 j u hu
theorem zwj (a b : Str) : Op.bytesLess a b = decide (a < b) := bytesLess_eq a b
def Srt (xs : List Str) : Prop := xs.Pairwise (· < ·)
theorem zw9 (a : Str) : ¬ a < a := List.lt_irrefl a
theorem zoc {xs : List Str} (h : Srt xs) : xs.Nodup := List.Pairwise.imp (fun {a b} (h : a < b) (e : a = b) => zw9 b (e ▸ h)) h
theorem qe9 {xs ys : List Str} (hx : Srt xs) (hy : Srt ys) (h : ∀ s, s ∈ xs ↔ s ∈ ys) : xs = ys := by
 have hp : xs.Perm ys := (List.perm_ext_iff_of_nodup (zoc hx) (zoc hy)).2 h
 exact hp.eq_of_pairwise (le := fun a b => a < b) (fun a b _ _ h1 h2 => absurd (List.lt_trans h1 h2) (zw9 a)) hx hy
theorem qeq {a b : Str} (h : a <= b) : a < b \/ a = b := by
 by_cases h1 : a < b
 ·exact Or.inl h1
 ·exact Or.inr (List.le_antisymm h (List.not_lt.1 h1))
theorem zyl (xs : List Str) (s : Str) : s ∈ zdj xs ↔ s ∈ xs := (List.mergeSort_perm xs leB).mem_iff
theorem zvf {xs : List Str} (h : xs.Nodup) : Srt (zdj xs) := by
 have tr : ∀ a b c : List UInt8, leB a b = true -> leB b c = true -> leB a c = true := fun a b c h1 h2 => by simp only [leB, decide_eq_true_eq] at *; exact List.le_trans h1 h2
 have to : ∀ a b : List UInt8, (leB a b || leB b a) = true := fun a b => by simp only [leB, Bool.or_eq_true, decide_eq_true_eq]; exact List.le_total a b
 have hs := List.pairwise_mergeSort tr to xs
 have hn : (zdj xs).Nodup := (List.mergeSort_perm xs leB).nodup_iff.2 h
 refine (List.Pairwise.and hs hn).imp ?_
 rintro a b ⟨h1, h2⟩
 simp only [leB, decide_eq_true_eq] at h1
 exact (qeq h1).resolve_right h2
def zq7 (l : List Str) (s : Str) : List Str := if (l.dropWhile fun x => Op.bytesLess x s).head? = some s then l else (l.takeWhile fun x => Op.bytesLess x s) ++ [s] ++ l.dropWhile fun x => Op.bytesLess x s
theorem qbx (l : List Str) (s x : Str) : x ∈ zq7 l s ↔ x = s \/ x ∈ l := by
 have e : l = (l.takeWhile fun x => Op.bytesLess x s) ++ l.dropWhile fun x => Op.bytesLess x s := (List.takeWhile_append_dropWhile).symm
 unfold zq7
 split
 ·rename_i h
  have : s ∈ l := by rw [e]; exact List.mem_append_right _ (List.mem_of_mem_head? h)
  exact ⟨Or.inr, fun h => h.elim (fun e => e ▸ this) id⟩
 ·conv => rhs; rw [e]
  simp only [List.mem_append, List.mem_singleton, or_assoc]
  constructor
  ·rintro (h | h | h)
   ·exact Or.inr (Or.inl h)
   ·exact Or.inl h
   ·exact Or.inr (Or.inr h)
  ·rintro (h | h | h)
   ·exact Or.inr (Or.inl h)
   ·exact Or.inl h
   ·exact Or.inr (Or.inr h)
theorem zjj {l : List Str} {p : Str -> Bool} {x : Str} (h : (l.dropWhile p).head? = some x) : p x = false := by
 induction l with
 | nil => simp at h
 | cons a l ih =>
  rw [List.dropWhile_cons] at h
  split at h
  ·exact ih h
  ·rename_i hp; simp only [List.head?_cons, Option.some.injEq] at h; subst h; simpa using hp
theorem qdu {l : List Str} (h : Srt l) (s : Str) : Srt (zq7 l s) := by
 unfold zq7
 split
 ·exact h
 ·rename_i hne
  have e : (l.takeWhile fun x => Op.bytesLess x s) ++ (l.dropWhile fun x => Op.bytesLess x s) = l := List.takeWhile_append_dropWhile
  have h' := h
  rw [<- e] at h'
  obtain ⟨h1, h2, h3⟩ := List.pairwise_append.1 h'
  have ht : ∀ a ∈ l.takeWhile fun x => Op.bytesLess x s, a < s := fun a ha => by
   have := List.all_takeWhile (l := l) (p := fun x => Op.bytesLess x s)
   have := List.all_eq_true.1 this a ha
   rw [zwj] at this
   exact of_decide_eq_true this
  have hd : ∀ a ∈ l.dropWhile fun x => Op.bytesLess x s, s < a := fun a ha => by
   cases hD : l.dropWhile fun x => Op.bytesLess x s with
   | nil => rw [hD] at ha; simp at ha
   | cons y ys =>
    have hy := zjj (l := l) (p := fun x => Op.bytesLess x s) (x := y) (by rw [hD]; rfl)
    have hys : s < y := by
     have h0 : ¬ y < s := by rw [zwj] at hy; exact of_decide_eq_false hy
     rcases qeq (List.not_lt.1 h0) with h | h
     ·exact h
     ·exact absurd (by rw [hD, h]; rfl) hne
    rw [hD] at ha h2
    rcases List.mem_cons.1 ha with rfl | ha
    ·exact hys
    ·exact List.lt_trans hys ((List.pairwise_cons.1 h2).1 a ha)
  rw [List.append_assoc]
  refine List.pairwise_append.2 ⟨h1, ?_, fun a ha b hb => ?_⟩
  ·exact List.pairwise_cons.2 ⟨hd, h2⟩
  ·rcases List.mem_cons.1 hb with rfl | hb
   ·exact ht a ha
   ·exact h3 a ha b hb
end Go.Proofs.YtbccfiillleimaaGreat
namespace Go.Proofs
open Go.Shelf
set_option maxRecDepth 100000
def Tryz.lays190_ren : Go.Shelf.Ren := ⟨fun | 190 => 118 | 125 => 187 | 258 => 186 | 128 => 231 | 129 => 232 | 302 => 222 | 303 => 223 | 304 => 224 | 305 => 225 | 306 => 226 | 307 => 227 | 308 => 228 | 309 => 229 | 310 => 230 | 333 => 255 | 329 => 256 | 330 => 257 | 334 => 258 | 335 => 259 | 336 => 260 | 344 => 266 | n => n, fun | 31 => 70 | 9 => 9 | 3 => 3 | 46 => 148 | 0 => 0 | 51 => 212 | 53 => 214 | 4 => 4 | 183 => 204 | 182 => 203 | 131 => 209 | 5 => 5 | 218 => 223 | 222 => 227 | 228 => 234 | 229 => 235 | n => n, fun | n => n⟩
theorem Tryz.lays190 : Go.Proofs.Lays.n190 Tryz.prog Tryz.lays190_ren := {
 mixed := by kernel_rfl
 f125 := Tryz.func187.trans (congrArg some (by kernel_rfl))
 f128 := Tryz.func231.trans (congrArg some (by kernel_rfl))
 f129 := Tryz.func232.trans (congrArg some (by kernel_rfl))
 f190 := Tryz.func118.trans (congrArg some (by kernel_rfl))
 f258 := Tryz.func186.trans (congrArg some (by kernel_rfl))
 f302 := Tryz.func222.trans (congrArg some (by kernel_rfl))
 f303 := Tryz.func223.trans (congrArg some (by kernel_rfl))
 f304 := Tryz.func224.trans (congrArg some (by kernel_rfl))
 f305 := Tryz.func225.trans (congrArg some (by kernel_rfl))
 f306 := Tryz.func226.trans (congrArg some (by kernel_rfl))
 f307 := Tryz.func227.trans (congrArg some (by kernel_rfl))
 f308 := Tryz.func228.trans (congrArg some (by kernel_rfl))
 f309 := Tryz.func229.trans (congrArg some (by kernel_rfl))
 f310 := Tryz.func230.trans (congrArg some (by kernel_rfl))
 f329 := Tryz.func256.trans (congrArg some (by kernel_rfl))
 f330 := Tryz.func257.trans (congrArg some (by kernel_rfl))
 f333 := Tryz.func255.trans (congrArg some (by kernel_rfl))
 f334 := Tryz.func258.trans (congrArg some (by kernel_rfl))
 f335 := Tryz.func259.trans (congrArg some (by kernel_rfl))
 f336 := Tryz.func260.trans (congrArg some (by kernel_rfl))
 f344 := Tryz.func266.trans (congrArg some (by kernel_rfl))
 t0 := Tryz.underlying0
 a0 := Tryz.isAgg0
 z0 := Tryz.sizeOf0
 v0 := Tryz.zeroValue0
 t3 := Tryz.underlying3
 a3 := Tryz.isAgg3
 z3 := Tryz.sizeOf3
 v3 := Tryz.zeroValue3
 t4 := Tryz.underlying4
 a4 := Tryz.isAgg4
 z4 := Tryz.sizeOf4
 v4 := Tryz.zeroValue4
 t5 := Tryz.underlying5
 a5 := Tryz.isAgg5
 z5 := Tryz.sizeOf5
 v5 := Tryz.zeroValue5
 t9 := Tryz.underlying9
 a9 := Tryz.isAgg9
 z9 := Tryz.sizeOf9
 v9 := Tryz.zeroValue9
 t31 := Tryz.underlying70
 a31 := Tryz.isAgg70
 z31 := Tryz.sizeOf70
 v31 := Tryz.zeroValue70
 t46 := Tryz.underlying148
 a46 := Tryz.isAgg148
 z46 := Tryz.sizeOf148
 v46 := Tryz.zeroValue148
 t51 := Tryz.underlying212
 a51 := Tryz.isAgg212
 z51 := Tryz.sizeOf212
 v51 := Tryz.zeroValue212
 t53 := Tryz.underlying214
 a53 := Tryz.isAgg214
 z53 := Tryz.sizeOf214
 v53 := Tryz.zeroValue214
 t131 := Tryz.underlying209
 a131 := Tryz.isAgg209
 z131 := Tryz.sizeOf209
 v131 := Tryz.zeroValue209
 t182 := Tryz.underlying203
 a182 := Tryz.isAgg203
 z182 := Tryz.sizeOf203
 v182 := Tryz.zeroValue203
 t183 := Tryz.underlying204
 a183 := Tryz.isAgg204
 z183 := Tryz.sizeOf204
 v183 := Tryz.zeroValue204
 t218 := Tryz.underlying223
 a218 := Tryz.isAgg223
 z218 := Tryz.sizeOf223
 v218 := Tryz.zeroValue223
 t222 := Tryz.underlying227
 a222 := Tryz.isAgg227
 z222 := Tryz.sizeOf227
 v222 := Tryz.zeroValue227
 t228 := Tryz.underlying234
 a228 := Tryz.isAgg234
 z228 := Tryz.sizeOf234
 v228 := Tryz.zeroValue234
 t229 := Tryz.underlying235
 a229 := Tryz.isAgg235
 z229 := Tryz.sizeOf235
 v229 := Tryz.zeroValue235 }
def Tryz.lays194_ren : Go.Shelf.Ren := ⟨fun | 194 => 119 | n => n, fun | 31 => 70 | 9 => 9 | 3 => 3 | 4 => 4 | 0 => 0 | n => n, fun | n => n⟩
theorem Tryz.lays194 : Go.Proofs.Lays.n194 Tryz.prog Tryz.lays194_ren := {
 mixed := by kernel_rfl
 f194 := Tryz.func119.trans (congrArg some (by kernel_rfl))
 t0 := Tryz.underlying0
 a0 := Tryz.isAgg0
 z0 := Tryz.sizeOf0
 v0 := Tryz.zeroValue0
 t3 := Tryz.underlying3
 a3 := Tryz.isAgg3
 z3 := Tryz.sizeOf3
 v3 := Tryz.zeroValue3
 t4 := Tryz.underlying4
 a4 := Tryz.isAgg4
 z4 := Tryz.sizeOf4
 v4 := Tryz.zeroValue4
 t9 := Tryz.underlying9
 a9 := Tryz.isAgg9
 z9 := Tryz.sizeOf9
 v9 := Tryz.zeroValue9
 t31 := Tryz.underlying70
 a31 := Tryz.isAgg70
 z31 := Tryz.sizeOf70
 v31 := Tryz.zeroValue70 }
end Go.Proofs
namespace Go.Proofs.YtbccfiillleimaaGreat
set_option linter.unusedSimpArgs false
set_option linter.unusedVariables false
set_option linter.unusedSectionVars false
set_option maxRecDepth 4000
open Go.RowKit
theorem Tm.wt_args {a : Tm} {n : Nat} (h : a.wt <= n) : a.args.length <= n /\ ∀ x ∈ a.args, x.wt <= n := by
 have e := Tm.wt_eq a
 refine ⟨by omega, fun x hx => ?_⟩
 have := zbl Tm.wt a.args x hx
 omega
theorem Fm.wt_parts {f : Fm} {n : Nat} (h : f.wt <= n) : f.atom.wt <= n /\ f.parts.length <= n /\ ∀ x ∈ f.parts, x.wt <= n := by
 have e := Fm.wt_eq f
 refine ⟨by omega, by omega, fun x hx => ?_⟩
 have := zbl Fm.wt f.parts x hx
 omega
set_option maxRecDepth 10000 in
theorem zn0 (xs : List Tm) (H : ∀ x ∈ xs, FC Tryz.prog 152 [tmD x] [tmD x]) (hs : xs.length <= 1048576) :
  FC Tryz.prog 173 [.one (tmS xs)] [.one (tmS xs)] := by
 by_cases h0 : xs = []
 ·subst h0
  refine zam Tryz.call173 Tryz.func173 rfl (by kernel_rfl) (za1 (by kernel_rfl)) ?_
  simp -implicitDefEqProofs only [go_sem, Tryz.results173]
 ·have hp : ((xs.length : Int) == 0) = false := by
   have : 0 < xs.length := List.length_pos_iff.2 h0
   simp; omega
  refine zam Tryz.call173 Tryz.func173 rfl (by kernel_rfl) (za1 (by kernel_rfl)) ?_
  simp -implicitDefEqProofs only [go_sem, Tryz.results173, hp]
  refine qbz (by simp -implicitDefEqProofs only [go_sem]; omega) ?_
  simp -implicitDefEqProofs only [go_sem]
  refine zae (fun k : Nat => hd [(12, vT (tmS xs)), (13, vI xs.length), (3, .one (.ow 352 0)), (14, vI k)] [] [(352, ⟨true, 2, (xs.take k).map tmC ++ List.replicate (xs.length - k) [T.str [], T.sl 2 []], 0, true⟩)]) (fun k => k <= xs.length) (fun k => xs.length - k) 0 (zac ?_) ?_ ?_
  ·simp -implicitDefEqProofs only [go_sem]
   simp
  ·simp
  ·intro k hk
   by_cases hlt : k < xs.length
   ·have hlen : ((xs.take k).map tmC ++ List.replicate (xs.length - k) [T.str [], T.sl 2 []]).length = xs.length := by simp; omega
    have hlt2 : k < k + (xs.length - k) := by omega
    simp -implicitDefEqProofs only [go_sem, List.length_map, zai, hlt, zaa]
    refine callF (H xs[k] (List.getElem_mem hlt)) (by simp -implicitDefEqProofs only [go_sem, zaa, hlen, hlt, List.length_append, List.length_map, List.length_take, List.length_replicate, Nat.min_eq_left hk, hlt2]) ?_
    simp -implicitDefEqProofs only [go_sem, zaa, hlen, hlt, List.length_append, List.length_map, List.length_take, List.length_replicate, Nat.min_eq_left hk, hlt2]
    refine zhc (by simp -implicitDefEqProofs only [go_sem]; simp) ?_
    simp -implicitDefEqProofs only [go_sem]
    rw [zao (by omega)]
    refine ⟨k + 1, by omega, by omega, zac ?_⟩
    simp -implicitDefEqProofs only [go_sem]
    have hf := zgq ((xs.take k).map tmC) xs.length k [T.str [], T.sl 2 []] (tmC xs[k]) (by simp; omega) hlt (by simp [zaa])
    simp only [zaa] at hf
    rw [hf, List.take_succ_eq_append_getElem hlt, List.map_append, List.map_singleton]
    simp only [zaa]
   ·simp -implicitDefEqProofs only [go_sem, List.length_map, hlt]
    simp [List.take_of_length_le (show xs.length <= k by omega), show xs.length - k = 0 by omega]
theorem zoy (a : Tm) (H : FC Tryz.prog 173 [.one (tmS a.args)] [.one (tmS a.args)]) : FC Tryz.prog 152 [tmD a] [tmD a] := by
 simp only [tmD, zaa a]
 refine zam Tryz.call152 Tryz.func152 rfl (by kernel_rfl) (za1 (by kernel_rfl)) ?_
 simp -implicitDefEqProofs only [go_sem, Tryz.results152]
 refine drawn (by kernel_rfl) ?_
 simp -implicitDefEqProofs only [go_sem]
 refine za6 (H) (by simp -implicitDefEqProofs only [go_sem]) ?_
 simp -implicitDefEqProofs only [go_sem]
 kernel_rfl
theorem qb7 (a : Tm) (H : ∀ x ∈ a.args, FC Tryz.prog 155 [tmD x] [tmD x]) (hs : a.args.length <= 1048576) : FC Tryz.prog 155 [tmD a] [tmD a] := by
 simp only [tmD, zaa a]
 refine zam Tryz.call155 Tryz.func155 rfl (by kernel_rfl) (za1 (by kernel_rfl)) ?_
 simp -implicitDefEqProofs only [go_sem, Tryz.results155]
 refine zae (fun k : Nat => hd [(1, .one (.bx 1 0)), (2, .one (.bx 2 0)), (3, .one (.bx 3 0)), (4, vI k)] [(1, [.t (.str a.name), .t (tmS a.args)]), (2, [.t (.str []), .nl 2]), (3, [.t (.str a.name), .ow 3000 0])] [(3000, ⟨true, 2, (a.args.take k).map tmC, 0, true⟩)]) (fun k => k <= a.args.length) (fun k => a.args.length - k) 0 (zac ?_) ?_ ?_
 ·simp -implicitDefEqProofs only [go_sem]
 ·simp
 ·intro k hk
  by_cases hlt : k < a.args.length
  ·simp -implicitDefEqProofs only [go_sem, hlt]
   refine drawn (by kernel_rfl) ?_
   have hmin : min k a.args.length <= 4294967295 := by omega
   simp -implicitDefEqProofs only [go_sem, zai, hlt, zaa]
   refine za6 (H a.args[k] (List.getElem_mem hlt)) (by simp -implicitDefEqProofs only [go_sem, zaa]) ?_
   simp -implicitDefEqProofs only [go_sem, zaa]
   refine zbo (by simp -implicitDefEqProofs only [go_sem]) ?_
   simp -implicitDefEqProofs only [go_sem]
   refine zn9 true (by simp -implicitDefEqProofs only [go_sem, ne_eq, List.length_map, List.length_take, hmin]) ?_
   simp -implicitDefEqProofs only [go_sem, ne_eq, List.length_map, List.length_take, hmin]
   refine ⟨by kernel_rfl, k + 1, hlt, by omega, zac ?_⟩
   simp -implicitDefEqProofs only [go_sem]
   rw [zao (by omega), List.take_succ_eq_append_getElem hlt, List.map_append, List.map_singleton]
   simp only [zaa]
   trivial
  ·have ht : a.args.take k = a.args := List.take_of_length_le (by omega)
   simp -implicitDefEqProofs only [go_sem, hlt, ht]
theorem zkf : ∀ a : Tm, a.wt <= 1048576 -> FC Tryz.prog 152 [tmD a] [tmD a] :=
 zbd fun n xs ih hs => by
  obtain ⟨h1, h2⟩ := Tm.wt_args hs
  exact zoy (.mk n xs) (zn0 xs (fun x hx => ih x hx (h2 x hx)) h1)
theorem zpp : ∀ a : Tm, a.wt <= 1048576 -> FC Tryz.prog 155 [tmD a] [tmD a] :=
 zbd fun n xs ih hs => by
  obtain ⟨h1, h2⟩ := Tm.wt_args hs
  exact qb7 (.mk n xs) (fun x hx => ih x hx (h2 x hx)) h1
set_option maxHeartbeats 1000000 in
theorem qbp (a : Fm) (H : ∀ x ∈ a.parts, FC Tryz.prog 140 [fmD x] [fmD x]) (h0 : a.atom.wt <= 1048576) (hs : a.parts.length <= 1048576) : FC Tryz.prog 140 [fmD a] [fmD a] := by
 simp only [fmD, zab a]
 refine zam Tryz.call140 Tryz.func140 rfl (by kernel_rfl) (za1 (by kernel_rfl)) ?_
 simp -implicitDefEqProofs only [go_sem, Tryz.results140]
 refine drawn (by kernel_rfl) ?_
 simp -implicitDefEqProofs only [go_sem]
 refine za6 (zpp a.atom h0) (by simp -implicitDefEqProofs only [go_sem, zaa]) ?_
 simp -implicitDefEqProofs only [go_sem, zaa]
 refine ⟨by kernel_rfl, ?_⟩
 refine zae (fun k : Nat => hd [(1, .one (.bx 1 0)), (2, .one (.bx 2 0)), (3, .one (.bx 3 0)), (4, vI k)] [(1, [.t (.int .i64 a.op), .t (.str a.atom.name), .t (tmS a.atom.args), .t (.str a.var), .t (fmS a.parts)]), (2, [.t (.int .i64 0), .t (.str []), .nl 2, .t (.str []), .nl 5]), (3, [.t (.int .i64 a.op), .t (.str a.atom.name), .ow 289 0, .t (.str a.var), .ow 3000 0])]
  [(289, ⟨true, 2, a.atom.args.map tmC, 0, true⟩), (3000, ⟨true, 5, (a.parts.take k).map fmC, 0, true⟩)]) (fun k => k <= a.parts.length) (fun k => a.parts.length - k) 0 (zac ?_) ?_ ?_
 ·simp -implicitDefEqProofs only [go_sem]
 ·simp
 ·intro k hk
  by_cases hlt : k < a.parts.length
  ·simp -implicitDefEqProofs only [go_sem, hlt]
   refine drawn (by kernel_rfl) ?_
   have hmin : min k a.parts.length <= 4294967295 := by omega
   simp -implicitDefEqProofs only [go_sem, zai, hlt, zab]
   refine za6 (H a.parts[k] (List.getElem_mem hlt)) (by simp -implicitDefEqProofs only [go_sem, zab]) ?_
   simp -implicitDefEqProofs only [go_sem, zab]
   refine zbo (by simp -implicitDefEqProofs only [go_sem]) ?_
   simp -implicitDefEqProofs only [go_sem]
   refine zn9 true (by simp -implicitDefEqProofs only [go_sem, ne_eq, List.length_map, List.length_take, hmin]) ?_
   simp -implicitDefEqProofs only [go_sem, ne_eq, List.length_map, List.length_take, hmin]
   refine ⟨by kernel_rfl, k + 1, hlt, by omega, zac ?_⟩
   simp -implicitDefEqProofs only [go_sem]
   rw [zao (by omega), List.take_succ_eq_append_getElem hlt, List.map_append, List.map_singleton]
   simp only [zab]
   trivial
  ·have ht : a.parts.take k = a.parts := List.take_of_length_le (by omega)
   simp -implicitDefEqProofs only [go_sem, hlt, ht]
theorem zpm : ∀ a : Fm, a.wt <= 1048576 -> FC Tryz.prog 140 [fmD a] [fmD a] :=
 zba fun o t v ps ih hs => by
  obtain ⟨h1, h2, h3⟩ := Fm.wt_parts hs
  exact qbp (.mk o t v ps) (fun x hx => ih x hx (h3 x hx)) h1 h2
end Go.Proofs.YtbccfiillleimaaGreat
namespace Go.Proofs.YtbccfiillleimaaGreat
set_option linter.unusedSimpArgs false
set_option linter.unusedVariables false
set_option linter.unusedSectionVars false
set_option maxRecDepth 4000
open Go.RowKit
theorem zij (ss : List Str) (hl : ss.length <= 1099511627776) : IC Tryz.prog 118 [] (.one (zb2 ss)) [] (.one (zb2 (zdj ss))) [] :=
 qgf Tryz.call118 (fun blk off cap ss w h1 h2 h3 => Any.slices_Sort_string Tryz.lays190 blk off cap ss w h1 h2 h3) (fun p cap w => Any.slices_Sort_string_none Tryz.lays190 p cap w) ss (by omega)
theorem qhu {P : Program} {t : TypeId} {n b : Nat} {z : List C} (h1 : zbj P t = some n) (h2 : zde P t = some b) (h3 : zc8 P t = some z) (h4 : z.length = n) : ∃ i0 zv, P.info? t = some i0 /\ i0.zero = some zv /\ zv.cells.size = n /\ i0.size = n /\ i0.bytes = b := by
 unfold zbj at h1
 unfold zde at h2
 unfold zc8 at h3
 cases hi : P.info? t with
 | none => rw [hi] at h1; cases h1
 | some i =>
  rw [hi] at h1 h2 h3
  simp only [Option.map_some, Option.some.injEq] at h1 h2
  simp only [Option.bind_some] at h3
  cases hz : i.zero with
  | none => rw [hz] at h3; cases h3
  | some zv =>
   rw [hz] at h3
   simp only [Option.map_some, Option.some.injEq] at h3
   refine ⟨i, zv, rfl, hz, ?_, h1, h2⟩
   rw [<- h4, <- h3]; simp
set_option maxHeartbeats 1000000 in
theorem zs1 : CloneOf Tryz.prog 120 1 16 := by
 have t22 := Tryz.underlying70
 have q22 : ∀ (w : World) (a : Option Addr) (n c n' c' : Nat), (binOp .eql 70 (.slice a n c) (.slice none n' c')).run Tryz.prog w = .ok (.bool a.isNone) w := fun w a n c n' c' => Lib.run_eql_slice_nil w _ _ a n c n' c' t22
 have u22 : ∀ w, Sem.run Tryz.prog (underlying 70) w = .ok (TypeDesc.slice 9) w := run_underlying t22
 refine ⟨Tryz.call120, fun ad n c news w hl hn hbig hc h1 => ?_, fun n c w => ?_⟩
 ·have A : Aside (∀ j u, news[j]? = some u -> w.cell? (ad.add j) = some u) := hc
  clear hc
  obtain ⟨i0, z, hi, hz0, hzs, hz1, hz2⟩ := qhu (P := Tryz.prog) (t := 9) (n := 1) (b := 16) (z := [.t (.str [])]) (by kernel_rfl) (by kernel_rfl) (by kernel_rfl) rfl
  go_enter Tryz.func120, Tryz.ntmps120
  go_wp2_with (at_builtin; refine wpList_append_own _ rfl _ _ 70 rfl w.heap.size 9 i0 z 1 16 t22 hi hz0 hz1 hz2 hzs (by decide) _ _ _ rfl (World.ownsRow_made w #[] 0 (Nat.le_refl _) (Nat.zero_le _) (by simp)) ad n c news rfl ?qc1 ?qc2 ?qc3 ?qc4 ?qc5 ?qc6 ?_)
  case qc1 => exact hl
  case qc2 =>
   intro j u hj
   exact Lib.cell?_alloc_some _ (A.out j u hj)
  case qc3 => exact h1
  case qc4 => rw [Nat.zero_add]; exact hn
  case qc5 => rw [Nat.zero_add]; exact hbig
  case qc6 => simp
  intro v' w1 hown hgrow hnil
  go_wp2
  go_ret
  refine ⟨_, v', rfl, by simpa using hown, hnil, ?_⟩
  exact ((Below.refl _ w).alloc (Nat.le_refl _) _).grown hgrow (by simp) (by intro k hk; simp [Value.ownBlock] at hk; omega)
 ·go_enter Tryz.func120, Tryz.ntmps120
  go_wp2
  go_ret
  exact ⟨rfl, rfl⟩
theorem zuf (ss : List Str) : ∀ c ∈ (ss.map fun s => [T.str s]).flatten, c.flat = true := fun c hc => by
 rw [zez] at hc
 obtain ⟨s, _, rfl⟩ := List.mem_map.1 hc
 rfl
theorem zjo (ss : List Str) (hs : ss.length <= 1099511627776) : FC Tryz.prog 120 [.one (zb2 ss)] [.one (zb2 ss)] :=
 qa2 zs1 _ (by simp; omega) (zuf ss)
abbrev qa1 (xs : List Int) : T := .sl 1 (xs.map fun s => [.int .i64 s])
theorem ztb (xs : List Int) (s : Int) : FC Tryz.prog 233 [.one (qa1 xs), iD s] [iD (qef xs s)] := by
 refine zdi (fun hw => ?_) Tryz.call233
 have hl : xs.length <= 9223372036854775807 := by simpa [zho, wfT] using hw.1.1
 refine zam Tryz.call233 Tryz.func233 rfl (by kernel_rfl) (za1 (by kernel_rfl)) ?_
 simp -implicitDefEqProofs only [go_sem, Tryz.results233]
 refine zae (fun k : Nat => hd [(0, vT (qa1 xs)), (1, vT (.int .i64 s)), (7, vI xs.length), (8, vI k)] [] []) (fun k => k <= xs.length /\ s ∉ xs.take k) (fun k => xs.length - k) 0 (zac ?_) ?_ ?_
 ·simp -implicitDefEqProofs only [go_sem]
 ·simp
 ·intro k ⟨hk, hr⟩
  by_cases hlt : k < xs.length
  ·simp -implicitDefEqProofs only [go_sem, zai, hlt]
   refine ⟨fun h => ?_, fun h => ?_⟩
   ·have e : xs[k] = s := (beq_iff_eq.1 h).symm
    have hm : s ∈ xs := e ▸ List.getElem_mem hlt
    rw [qef, if_pos (by simpa using hm), zmr hlt hr e]
   ·have e : xs[k] ≠ s := fun e => by simp [e] at h
    exact ⟨k + 1, ⟨hlt, zeh hlt hr e⟩, by omega, zac (by simp -implicitDefEqProofs only [go_sem]; rw [zao (by omega)])⟩
  ·simp -implicitDefEqProofs only [go_sem, hlt]
   rw [List.take_of_length_le (by omega)] at hr
   rw [qef, if_neg (by simpa using hr)]
theorem zk7 (xs : List Int) (s : Int) : FC Tryz.prog 188 [.one (qa1 xs), iD s] [bD (xs.contains s)] := by
 refine zam Tryz.call188 Tryz.func188 rfl (by kernel_rfl) (za1 (by kernel_rfl)) ?_
 simp -implicitDefEqProofs only [go_sem, Tryz.results188]
 refine callF (ztb xs s) (by simp -implicitDefEqProofs only [go_sem]) ?_
 simp -implicitDefEqProofs only [go_sem]
 unfold qef
 cases h : xs.contains s <;> simp
theorem zr0 (xs : List Str) (s : Str) : FC Tryz.prog 99 [.one (zb2 xs), sD s] [bD (xs.contains s)] := by
 refine zdi (fun hw => ?_) Tryz.call99
 have hl : xs.length <= 9223372036854775807 := by simpa [zho, wfT] using hw.1.1
 refine zam Tryz.call99 Tryz.func99 rfl (by kernel_rfl) (za1 (by kernel_rfl)) ?_
 simp -implicitDefEqProofs only [go_sem, Tryz.results99]
 refine zae (fun k : Nat => hd [(0, vT (zb2 xs)), (1, vT (.str s)), (5, vI k)] [] []) (fun k => k <= xs.length /\ s ∉ xs.take k) (fun k => xs.length - k) 0 (zac ?_) ?_ ?_
 ·simp -implicitDefEqProofs only [go_sem]
 ·simp
 ·intro k ⟨hk, hr⟩
  by_cases hlt : k < xs.length
  ·simp -implicitDefEqProofs only [go_sem, zai, hlt]
   refine ⟨fun h => ?_, fun h => ?_⟩
   ·have e : xs[k] = s := by simpa using h
    rw [List.contains_iff_mem.2 (e ▸ List.getElem_mem hlt)]
   ·have e : xs[k] ≠ s := by simpa using h
    exact ⟨k + 1, ⟨hlt, zeh hlt hr e⟩, by omega, zac (by simp -implicitDefEqProofs only [go_sem]; rw [zao (by omega)])⟩
  ·simp -implicitDefEqProofs only [go_sem, hlt]
   rw [List.take_of_length_le (by omega)] at hr
   simpa using hr
theorem zdp {α : Type} {p : α -> Bool} : ∀ {l : List α} {k : Nat}, k <= l.length -> (∀ x ∈ l.take k, p x = true) -> (∀ h : k < l.length, p l[k] = false) -> l.takeWhile p = l.take k /\ l.dropWhile p = l.drop k
 | [], k, hk, _, _ => by simp
 | a :: l, 0, hk, _, h2 => by have := h2 (by simp); simp only [List.getElem_cons_zero] at this; simp [this]
 | a :: l, k + 1, hk, h1, h2 => by
  have ha := h1 a (by simp)
  obtain ⟨e1, e2⟩ := zdp (l := l) (k := k) (by simpa using hk) (fun x hx => h1 x (by simp [hx])) (fun h => h2 (by simpa using h))
  simp [ha, e1, e2]
theorem zut {l : List Str} {s : Str} {k : Nat} (hk : k <= l.length) (h1 : ∀ x ∈ l.take k, Op.bytesLess x s = true) (h2 : ∀ h : k < l.length, Op.bytesLess l[k] s = false) : zq7 l s = if (l.drop k).head? = some s then l else l.take k ++ [s] ++ l.drop k := by
 obtain ⟨e1, e2⟩ := zdp (p := fun x => Op.bytesLess x s) hk h1 h2
 unfold zq7
 rw [e1, e2]
theorem flR_of {rows : List (List T)} (h : ∀ r ∈ rows, r.all T.flat = true) : flR rows = true := by
 induction rows with
 | nil => rfl
 | cons r rs ih => unfold flR; rw [h r (by simp), ih fun r hr => h r (by simp [hr])]; rfl
theorem zbs (l : List Str) : flR (l.map fun s => [T.str s]) = true := flR_of fun r hr => by obtain ⟨s, _, rfl⟩ := List.mem_map.1 hr; rfl
theorem zbx (k : Nat) (l : List Str) : flR ((l.map fun s => [T.str s]).take k) = true := by rw [<- List.map_take]; exact zbs _
theorem zbv (k : Nat) (l : List Str) : flR ((l.map fun s => [T.str s]).drop k) = true := by rw [<- List.map_drop]; exact zbs _
theorem zeo {α β : Type} (f : α -> β) (l : List α) : (l.map f).take l.length = l.map f := List.take_of_length_le (by simp)
theorem zym (l : List Str) (s : Str) (hl : l.length <= 2147483648) : GC Tryz.prog 206 [(true, .one (zb2 l)), (false, sD s)] [.one (zb2 (zq7 l s))] := by
 refine zyp Tryz.call206 Tryz.func206 rfl (by kernel_rfl) (by simp only [List.length_cons, List.length_nil, Tryz.ntmps206]; omega) (by simp [zbz, T.isPin]) ?_
 simp -implicitDefEqProofs only [go_sem, Tryz.results206]
 refine zae (fun k : Nat => hd [(0, .one (.ow 0 0)), (1, vT (.str s)), (5, vI k)] [] [(0, ⟨true, 1, l.map fun s => [.str s], 0, true⟩)]) (fun k => k <= l.length /\ ∀ x ∈ l.take k, Op.bytesLess x s = true) (fun k => l.length - k) 0 (zac ?_) ?_ ?_
 ·simp -implicitDefEqProofs only [go_sem]
 ·simp
 ·intro k ⟨hk, hr⟩
  have hm1 : min k l.length <= 4294967296 := by omega
  have hm2 : min k l.length <= 4294967295 := by omega
  have hm3 : min k l.length + 1 + (l.length - k) <= 4294967296 := by omega
  by_cases hlt : k < l.length
  ·have hnx : ∀ {b}, Op.bytesLess l[k] s = b -> b = true -> ∀ x ∈ l.take (k + 1), Op.bytesLess x s = true := fun {b} e hb x hx => by
    rw [List.take_succ_eq_append_getElem hlt] at hx
    rcases List.mem_append.1 hx with hx | hx
    ·exact hr x hx
    ·rw [List.mem_singleton.1 hx, e, hb]
   simp -implicitDefEqProofs only [go_sem, zai, hlt]
   refine ⟨fun h => ⟨k + 1, ⟨hlt, hnx rfl h⟩, by omega, zac (by simp -implicitDefEqProofs only [go_sem]; rw [zao (by omega)])⟩, fun h => ?_⟩
   have hp := zut hk hr (fun _ => h)
   have hh : (l.drop k).head? = some l[k] := by rw [List.head?_drop, List.getElem?_eq_getElem hlt]
   refine ⟨fun h2 => ?_, fun h2 => ?_⟩
   ·rw [hp, if_pos (by rw [hh]; simpa using h2)]
   ·rw [if_neg (by rw [hh]; simpa using h2)] at hp
    refine frzD 0 ?_
    simp -implicitDefEqProofs only [go_sem]
    refine drawn (by kernel_rfl) ?_
    simp -implicitDefEqProofs only [go_sem, hk]
    refine zbo (by simp -implicitDefEqProofs only [go_sem, hk]) ?_
    simp -implicitDefEqProofs only [go_sem, hk]
    refine zn9 true (by simp -implicitDefEqProofs only [go_sem, hk, ne_eq, Nat.zero_add, hm1, hm2, hm3, zbx, zbv, zeo, List.length_drop, List.length_take, List.length_append, List.length_map]) ?_
    simp -implicitDefEqProofs only [go_sem, hk, ne_eq, Nat.zero_add, hm1, hm2, hm3, zbx, zbv, zeo, List.length_drop, List.length_take, List.length_append, List.length_map]
    refine zbo (by simp -implicitDefEqProofs only [go_sem, hk]) ?_
    simp -implicitDefEqProofs only [go_sem, hk]
    refine zn9 true (by simp -implicitDefEqProofs only [go_sem, hk, ne_eq, Nat.zero_add, hm1, hm2, hm3, zbx, zbv, zeo, List.length_drop, List.length_take, List.length_append, List.length_map]) ?_
    simp -implicitDefEqProofs only [go_sem, hk, ne_eq, Nat.zero_add, hm1, hm2, hm3, zbx, zbv, zeo, List.length_drop, List.length_take, List.length_append, List.length_map]
    refine zn9 true (by simp -implicitDefEqProofs only [go_sem, hk, ne_eq, Nat.zero_add, hm1, hm2, hm3, zbx, zbv, zeo, List.length_drop, List.length_take, List.length_append, List.length_map]) ?_
    simp -implicitDefEqProofs only [go_sem, hk, ne_eq, Nat.zero_add, hm1, hm2, hm3, zbx, zbv, zeo, List.length_drop, List.length_take, List.length_append, List.length_map]
    refine ⟨by kernel_rfl, ?_⟩
    rw [hp]; simp
  ·simp -implicitDefEqProofs only [go_sem, hlt]
   have hp := zut hk hr (fun h => absurd h hlt)
   rw [if_neg (by rw [List.drop_of_length_le (by omega)]; simp)] at hp
   refine frzD 0 ?_
   simp -implicitDefEqProofs only [go_sem]
   refine drawn (by kernel_rfl) ?_
   simp -implicitDefEqProofs only [go_sem, hk]
   refine zbo (by simp -implicitDefEqProofs only [go_sem, hk]) ?_
   simp -implicitDefEqProofs only [go_sem, hk]
   refine zn9 true (by simp -implicitDefEqProofs only [go_sem, hk, ne_eq, Nat.zero_add, hm1, hm2, hm3, zbx, zbv, zeo, List.length_drop, List.length_take, List.length_append, List.length_map]) ?_
   simp -implicitDefEqProofs only [go_sem, hk, ne_eq, Nat.zero_add, hm1, hm2, hm3, zbx, zbv, zeo, List.length_drop, List.length_take, List.length_append, List.length_map]
   refine zbo (by simp -implicitDefEqProofs only [go_sem, hk]) ?_
   simp -implicitDefEqProofs only [go_sem, hk]
   refine zn9 true (by simp -implicitDefEqProofs only [go_sem, hk, ne_eq, Nat.zero_add, hm1, hm2, hm3, zbx, zbv, zeo, List.length_drop, List.length_take, List.length_append, List.length_map]) ?_
   simp -implicitDefEqProofs only [go_sem, hk, ne_eq, Nat.zero_add, hm1, hm2, hm3, zbx, zbv, zeo, List.length_drop, List.length_take, List.length_append, List.length_map]
   refine zn9 true (by simp -implicitDefEqProofs only [go_sem, hk, ne_eq, Nat.zero_add, hm1, hm2, hm3, zbx, zbv, zeo, List.length_drop, List.length_take, List.length_append, List.length_map]) ?_
   simp -implicitDefEqProofs only [go_sem, hk, ne_eq, Nat.zero_add, hm1, hm2, hm3, zbx, zbv, zeo, List.length_drop, List.length_take, List.length_append, List.length_map]
   refine ⟨by kernel_rfl, ?_⟩
   rw [hp]; simp
end Go.Proofs.YtbccfiillleimaaGreat
namespace Go.Proofs.YtbccfiillleimaaGreat
set_option linter.unusedSimpArgs false
set_option linter.unusedVariables false
set_option linter.unusedSectionVars false
set_option maxRecDepth 4000
open Go.RowKit
theorem qfr {b : UInt8} (h1 : decide ((b.toNat : Int) < 65) = false) (h2 : decide ((90 : Int) < b.toNat) = false) : zjf b = true := by
 simp [zjf] at *; omega
theorem qay {b : UInt8} (h1 : decide ((b.toNat : Int) < 65) = true) : zjf b = false := by
 simp [zjf] at *; omega
theorem qdg {b : UInt8} (h2 : decide ((90 : Int) < b.toNat) = true) : zjf b = false := by
 simp [zjf] at *; omega
theorem qbw {b : UInt8} (h1 : decide ((b.toNat : Int) < 97) = false) (h2 : decide ((122 : Int) < b.toNat) = false) : zfe b = true := by
 simp [zfe] at *; omega
theorem zvl {b : UInt8} (h1 : decide ((b.toNat : Int) < 97) = true) : zfe b = false := by
 simp [zfe] at *; omega
theorem zy7 {b : UInt8} (h2 : decide ((122 : Int) < b.toNat) = true) : zfe b = false := by
 simp [zfe] at *; omega
theorem zrp {s : Str} (h : 0 < s.length) : zp6 s = (zjf (s.getD 0 0) && (s.drop 1).all zl9) := by
 cases s
 ·exact absurd h (by simp)
 ·rfl
theorem zmx {s : Str} (h : 0 < s.length) : zis s = (zfe (s.getD 0 0) && (s.drop 1).all zls) := by
 cases s
 ·exact absurd h (by simp)
 ·rfl
theorem zib (s : Str) : FC Tryz.prog 198 [sD s] [bD (za2 s)] := by
 refine zdi (fun hw => ?_) Tryz.call198
 have hl : s.length <= 9223372036854775807 := by simpa [zho, wfT] using hw.1
 refine zam Tryz.call198 Tryz.func198 rfl (by kernel_rfl) (za1 (by kernel_rfl)) ?_
 simp -implicitDefEqProofs only [go_sem, Tryz.results198]
 refine callF (qex s.length 1 4) (by simp -implicitDefEqProofs only [go_sem]) ?_
 simp -implicitDefEqProofs only [go_sem]
 by_cases hb : inB s.length 1 4 = true
 ·have hp : 0 < s.length := by simp [inB] at hb; omega
  have hp' : (0 : Int) < s.length := by omega
  have he := zrp hp
  refine ⟨fun h => ⟨hp', fun h1 => ⟨hp', fun h2 => ?_, fun h2 => ?_⟩, fun h1 => ?_⟩, fun h => by simp [hb] at h⟩
  ·rw [za2, he, qdg h2]; rfl
  ·rw [qfr h1 h2, Bool.true_and] at he
   refine zae (fun k : Nat => hd [(0, vT (.str s)), (3, vI k)] [] []) (fun k => k <= s.length /\ zp6 s = (s.drop k).all zl9) (fun k => s.length - k) 1 (zac ?_) ?_ ?_
   ·simp -implicitDefEqProofs only [go_sem]
   ·exact ⟨hp, he⟩
   ·intro k ⟨hk, hr⟩
    by_cases hlt : k < s.length
    ·have hg : s.getD k 0 = s[k] := by simp [List.getD, hlt]
     rw [List.drop_eq_getElem_cons hlt, List.all_cons] at hr
     simp -implicitDefEqProofs only [go_sem, hlt]
     simp only [hg]
     refine callF (znk s[k]) (by simp -implicitDefEqProofs only [go_sem]) ?_
     simp -implicitDefEqProofs only [go_sem]
     refine ⟨fun h => ?_, fun h => ⟨k + 1, ⟨hlt, ?_⟩, by omega, zac (by simp -implicitDefEqProofs only [go_sem]; rw [zao (by omega)])⟩⟩
     ·have : zl9 s[k] = false := by simpa using h
      rw [za2, hr, this]; rfl
     ·have : zl9 s[k] = true := by simpa using h
      rw [hr, this]; rfl
    ·simp -implicitDefEqProofs only [go_sem, hlt]
     rw [za2, hr, List.drop_of_length_le (by omega), hb]; rfl
  ·rw [za2, he, qay h1]; rfl
 ·have hb' : inB s.length 1 4 = false := by simpa using hb
  refine ⟨fun h => by simp [hb'] at h, fun h => ?_⟩
  rw [za2, hb', Bool.and_false]
set_option maxHeartbeats 1000000 in
theorem zkc (s : Str) : FC Tryz.prog 217 [sD s] [bD (zcg s)] := by
 refine zdi (fun hw => ?_) Tryz.call217
 have hl : s.length <= 9223372036854775807 := by simpa [zho, wfT] using hw.1
 refine zam Tryz.call217 Tryz.func217 rfl (by kernel_rfl) (za1 (by kernel_rfl)) ?_
 simp -implicitDefEqProofs only [go_sem, Tryz.results217]
 refine callF (qex s.length 1 6) (by simp -implicitDefEqProofs only [go_sem]) ?_
 simp -implicitDefEqProofs only [go_sem]
 by_cases hb : inB s.length 1 6 = true
 ·have hp : 0 < s.length := by simp [inB] at hb; omega
  have hp' : (0 : Int) < s.length := by omega
  have he := zmx hp
  refine ⟨fun h => ⟨hp', fun h1 => ⟨hp', fun h2 => ?_, fun h2 => ?_⟩, fun h1 => ?_⟩, fun h => by simp [hb] at h⟩
  ·rw [zcg, he, zy7 h2]; rfl
  ·rw [qbw h1 h2, Bool.true_and] at he
   have leaf : ∀ l, l ∈ zpk -> (s == l) = true -> T.bool false = T.bool (zcg s) := fun l hl e => by
    have : zpk.contains s = true := by rw [List.contains_iff_mem, beq_iff_eq.1 e]; exact hl
    rw [zcg, this, Bool.not_true, Bool.and_false]
   refine ⟨fun e => ⟨fun _ => leaf _ (by simp [zpk]) e, fun e' => absurd (e.symm.trans e') (by simp)⟩, fun n1 => ?_⟩
   refine ⟨fun e => ⟨fun _ => leaf _ (by simp [zpk]) e, fun e' => absurd (e.symm.trans e') (by simp)⟩, fun n2 => ?_⟩
   refine ⟨fun e => ⟨fun _ => leaf _ (by simp [zpk]) e, fun e' => absurd (e.symm.trans e') (by simp)⟩, fun n3 => ?_⟩
   refine ⟨fun e => ⟨fun _ => leaf _ (by simp [zpk]) e, fun e' => absurd (e.symm.trans e') (by simp)⟩, fun n4 => ?_⟩
   refine ⟨fun e => ⟨fun _ => leaf _ (by simp [zpk]) e, fun e' => absurd (e.symm.trans e') (by simp)⟩, fun n5 => ?_⟩
   refine ⟨fun e => ⟨fun _ => leaf _ (by simp [zpk]) e, fun e' => absurd (e.symm.trans e') (by simp)⟩, fun n6 => ?_⟩
   refine ⟨fun e => ⟨fun _ => leaf _ (by simp [zpk]) e, fun e' => absurd (e.symm.trans e') (by simp)⟩, fun n7 => ?_⟩
   refine ⟨fun e => leaf _ (by simp [zpk]) e, fun n8 => ?_⟩
   have hnc : zpk.contains s = false := by
    simp only [beq_eq_false_iff_ne, ne_eq] at n1 n2 n3 n4 n5 n6 n7 n8
    rw [Bool.eq_false_iff, ne_eq, List.contains_iff_mem]
    simp only [zpk, List.mem_cons, List.not_mem_nil, or_false, not_or]
    exact ⟨n1, n2, n3, n4, n5, n6, n7, n8⟩
   refine zae (fun k : Nat => hd [(0, vT (.str s)), (3, vI k)] [] []) (fun k => k <= s.length /\ zis s = (s.drop k).all zls) (fun k => s.length - k) 1 (zac ?_) ?_ ?_
   ·simp -implicitDefEqProofs only [go_sem]
   ·exact ⟨hp, he⟩
   ·intro k ⟨hk, hr⟩
    by_cases hlt : k < s.length
    ·have hg : s.getD k 0 = s[k] := by simp [List.getD, hlt]
     rw [List.drop_eq_getElem_cons hlt, List.all_cons] at hr
     simp -implicitDefEqProofs only [go_sem, hlt]
     simp only [hg]
     refine callF (znk s[k]) (by simp -implicitDefEqProofs only [go_sem]) ?_
     simp -implicitDefEqProofs only [go_sem]
     simp only [hg]
     refine ⟨fun h => ⟨hlt, fun h' => ?_, fun h' => ⟨k + 1, ⟨hlt, ?_⟩, by omega, zac (by simp -implicitDefEqProofs only [go_sem]; rw [zao (by omega)])⟩⟩, fun h => ⟨k + 1, ⟨hlt, ?_⟩, by omega, zac (by simp -implicitDefEqProofs only [go_sem]; rw [zao (by omega)])⟩⟩
     ·have : zls s[k] = false := by
       simp [zls] at h ⊢
       refine ⟨h, fun e => ?_⟩
       rw [e] at h'
       simp at h'
      rw [zcg, hr, this]; rfl
     ·have : zls s[k] = true := by
       have := qfu (b := s[k]) (n := 95) (by omega)
       simp [zls] at h' ⊢
       right
       simpa [h'] using this
      rw [hr, this]; rfl
     ·have : zls s[k] = true := by simp [zls]; simp at h; simp [h]
      rw [hr, this]; rfl
    ·simp -implicitDefEqProofs only [go_sem, hlt]
     rw [zcg, hr, List.drop_of_length_le (by omega), hb, hnc]; rfl
  ·rw [zcg, he, zvl h1]; rfl
 ·have hb' : inB s.length 1 6 = false := by simpa using hb
  refine ⟨fun h => by simp [hb'] at h, fun h => ?_⟩
  rw [zcg, hb', Bool.and_false]; rfl
end Go.Proofs.YtbccfiillleimaaGreat
namespace Go.Proofs.YtbccfiillleimaaGreat
set_option linter.unusedSimpArgs false
set_option linter.unusedVariables false
set_option linter.unusedSectionVars false
set_option maxRecDepth 4000
open Go.RowKit
def Tm.nodes : Tm -> Nat := Tm.fold fun _ _ rs => 1 + rs.sum
theorem Tm.nodes_eq (a : Tm) : a.nodes = 1 + (a.args.map Tm.nodes).sum := Tm.fold_eq _ a
def Tm.depth : Tm -> Nat := Tm.fold fun _ _ rs => rs.foldl max 0 + 1
theorem Tm.depth_eq (a : Tm) : a.depth = (a.args.map Tm.depth).foldl max 0 + 1 := Tm.fold_eq _ a
theorem zfh : ∀ a : Tm, a.nodes <= 1 + a.wt := by
 refine zbd fun n xs ih => ?_
 rw [Tm.nodes_eq, Tm.wt_eq]
 show 1 + (xs.map Tm.nodes).sum <= 1 + (n.length + xs.length + (xs.map Tm.wt).sum)
 have : (xs.map Tm.nodes).sum <= xs.length + (xs.map Tm.wt).sum := by
  clear n
  induction xs with
  | nil => simp
  | cons x xs ih2 =>
   have h1 := ih x (by simp)
   have h2 := ih2 fun y hy => ih y (by simp [hy])
   simp only [List.map_cons, List.sum_cons, List.length_cons]
   omega
 omega
theorem zhd {B : Nat} : ∀ (xs : List Nat) (m : Nat), m <= B -> (∀ x ∈ xs, x <= B) -> xs.foldl max m <= B
 | [], m, h, _ => h
 | x :: xs, m, h, h2 => zhd xs (max m x) (by have := h2 x (by simp); omega) fun y hy => h2 y (by simp [hy])
theorem ziw : ∀ a : Tm, a.depth <= a.nodes := by
 refine zbd fun n xs ih => ?_
 rw [Tm.nodes_eq, Tm.depth_eq]
 show (xs.map Tm.depth).foldl max 0 + 1 <= 1 + (xs.map Tm.nodes).sum
 have := zhd (B := (xs.map Tm.nodes).sum) (xs.map Tm.depth) 0 (by omega) fun d hd => by
  obtain ⟨x, hx, rfl⟩ := List.mem_map.1 hd
  exact Nat.le_trans (ih x hx) (zbl Tm.nodes xs x hx)
 omega
def szL (lim : Int) : Int -> List Int -> Int
 | n, [] => n
 | n, r :: rs => if n > lim then n else szL lim (n + r) rs
def zfd : Tm -> Int := Tm.fold fun _ _ rs => szL 30 1 rs
theorem zqo (a : Tm) : zfd a = szL 30 1 (a.args.map zfd) := Tm.fold_eq _ a
theorem zku {α : Type} (f : α -> Int) (g : α -> Nat) (lim : Int) : ∀ (xs : List α) (n : Int), 0 <= n -> (∀ x ∈ xs, 1 <= f x /\ f x <= g x /\ (f x <= lim -> f x = g x)) -> szL lim n (xs.map f) <= n + (xs.map g).sum /\ n <= szL lim n (xs.map f) /\ (szL lim n (xs.map f) <= lim -> szL lim n (xs.map f) = n + (xs.map g).sum)
 | [], n, _, _ => by simp [szL]
 | x :: xs, n, hn, h => by
  obtain ⟨h1, h2, h3⟩ := h x (by simp)
  obtain ⟨k1, k2, k3⟩ := zku f g lim xs (n + f x) (by omega) fun y hy => h y (by simp [hy])
  simp only [List.map_cons, szL, List.sum_cons]
  split
  ·refine ⟨by omega, by omega, fun hh => by omega⟩
  ·refine ⟨by omega, by omega, fun hh => ?_⟩
   have := k3 hh
   rw [this]
   have : f x = g x := h3 (by omega)
   omega
theorem zju : ∀ a : Tm, 1 <= zfd a /\ zfd a <= a.nodes /\ (zfd a <= 30 -> zfd a = a.nodes) := by
 refine zbd fun n xs ih => ?_
 rw [zqo, Tm.nodes_eq]
 show 1 <= szL 30 1 (xs.map zfd) /\ szL 30 1 (xs.map zfd) <= ((1 + (xs.map Tm.nodes).sum : Nat) : Int) /\ _
 obtain ⟨k1, k2, k3⟩ := zku zfd Tm.nodes 30 xs 1 (by omega) ih
 refine ⟨k2, by omega, fun h => ?_⟩
 have := k3 h
 show szL 30 1 (xs.map zfd) = _
 rw [this]; show _ = ((1 + (xs.map Tm.nodes).sum : Nat) : Int); omega
theorem qbk (a : Tm) : decide (zfd a <= 30) = decide (a.nodes <= 30) := by
 obtain ⟨h1, h2, h3⟩ := zju a
 rw [decide_eq_decide]
 exact ⟨fun h => by have := h3 h; omega, fun h => by omega⟩
def qdo {α : Type} (f : α -> Nat) (xs : List α) (k : Nat) : Nat := ((xs.drop k).map f).sum
theorem zgs {α : Type} (f : α -> Nat) (xs : List α) : qdo f xs 0 = (xs.map f).sum := by simp [qdo]
theorem zkv {α : Type} (f : α -> Nat) (xs : List α) (k : Nat) (h : k < xs.length) : qdo f xs k = f xs[k] + qdo f xs (k + 1) := by
 unfold qdo
 rw [List.drop_eq_getElem_cons h, List.map_cons, List.sum_cons]
set_option maxHeartbeats 400000 in
theorem qgj (a : Tm) (hs : a.wt <= 1099511627776) (H : ∀ x ∈ a.args, FC Tryz.prog 235 [tmD x] [iD (zfd x)]) : FC Tryz.prog 235 [tmD a] [iD (zfd a)] := by
 refine zdi (fun hw => ?_) Tryz.call235
 have hl : a.args.length <= 9223372036854775807 := by rw [Tm.wt_eq] at hs; omega
 have hn := zfh a
 have hN := a.nodes_eq
 simp only [tmD, zaa]
 refine zam Tryz.call235 Tryz.func235 rfl (by kernel_rfl) (za1 (by kernel_rfl)) ?_
 simp -implicitDefEqProofs only [go_sem, Tryz.results235]
 refine zae (fun p : Nat × Int => hd [(3, vI p.2), (7, vT (tmS a.args)), (8, vI a.args.length), (9, vI p.1)] [] []) (fun p => p.1 <= a.args.length /\ zfd a = szL 30 p.2 ((a.args.drop p.1).map zfd) /\ 1 <= p.2 /\ p.2 + qdo Tm.nodes a.args p.1 <= a.nodes) (fun p => a.args.length - p.1) (0, 1) (zac ?_) ?_ ?_
 ·simp -implicitDefEqProofs only [go_sem]
 ·exact ⟨by simp, by rw [zqo]; rfl, by omega, by rw [zgs]; omega⟩
 ·intro ⟨k, n⟩ ⟨hk, hr, h1, h2⟩
  simp only at hk hr h1 h2
  by_cases hlt : k < a.args.length
  ·have hd := zkv Tm.nodes a.args k hlt
   obtain ⟨s1, s2, s3⟩ := zju a.args[k]
   rw [List.drop_eq_getElem_cons hlt, List.map_cons, szL] at hr
   simp -implicitDefEqProofs only [go_sem, zai, hlt, zaa]
   refine ⟨fun h => ?_, fun h => ?_⟩
   ·rw [hr, if_pos (by simpa using h)]
   ·refine callF (H a.args[k] (List.getElem_mem hlt)) (by simp -implicitDefEqProofs only [go_sem, zaa]) ?_
    simp -implicitDefEqProofs only [go_sem, zaa]
    rw [if_neg (by simpa using h)] at hr
    exact ⟨(k + 1, n + zfd a.args[k]), ⟨hlt, hr, by simp only; omega, by simp only; omega⟩, by simp only; omega, zac (by simp -implicitDefEqProofs only [go_sem]; rw [zao (by omega), zbp (by omega) (by omega)]; exact ⟨rfl, rfl⟩)⟩
  ·simp -implicitDefEqProofs only [go_sem, hlt]
   rw [hr, List.drop_of_length_le (by omega)]; rfl
theorem size_c : ∀ a : Tm, a.wt <= 1099511627776 -> FC Tryz.prog 235 [tmD a] [iD (zfd a)] :=
 zbd fun n xs ih hs => qgj (.mk n xs) hs fun x hx => ih x hx (by
  have := Tm.wt_eq (.mk n xs)
  have := zbl Tm.wt xs x hx
  simp only [Tm.args] at *; omega)
set_option maxHeartbeats 400000 in
theorem qdn (a : Tm) (hs : a.wt <= 1099511627776) (H : ∀ x ∈ a.args, FC Tryz.prog 236 [tmD x] [iD x.depth]) : FC Tryz.prog 236 [tmD a] [iD a.depth] := by
 have hl : a.args.length <= 9223372036854775807 := by rw [Tm.wt_eq] at hs; omega
 have hn := zfh a
 have hdn := ziw a
 have hD := a.depth_eq
 simp only [tmD, zaa]
 refine zam Tryz.call236 Tryz.func236 rfl (by kernel_rfl) (za1 (by kernel_rfl)) ?_
 simp -implicitDefEqProofs only [go_sem, Tryz.results236]
 refine zae (fun p : Nat × Nat => hd [(3, vI p.2), (7, vT (tmS a.args)), (8, vI a.args.length), (9, vI p.1)] [] []) (fun p => p.1 <= a.args.length /\ a.depth = ((a.args.drop p.1).map Tm.depth).foldl max p.2 + 1) (fun p => a.args.length - p.1) (0, 0) (zac ?_) ?_ ?_
 ·simp -implicitDefEqProofs only [go_sem]
 ·exact ⟨by simp, hD⟩
 ·intro ⟨k, n⟩ ⟨hk, hr⟩
  simp only at hk hr
  by_cases hlt : k < a.args.length
  ·rw [List.drop_eq_getElem_cons hlt, List.map_cons, List.foldl_cons] at hr
   simp -implicitDefEqProofs only [go_sem, zai, hlt, zaa]
   refine callF (H a.args[k] (List.getElem_mem hlt)) (by simp -implicitDefEqProofs only [go_sem, zaa]) ?_
   simp -implicitDefEqProofs only [go_sem, zaa]
   exact ⟨(k + 1, max n a.args[k].depth), ⟨hlt, hr⟩, by simp only; omega, zac (by simp -implicitDefEqProofs only [go_sem]; rw [zao (by omega)]; exact ⟨by congr 1; omega, rfl⟩)⟩
  ·simp -implicitDefEqProofs only [go_sem, hlt]
   rw [List.drop_of_length_le (by omega)] at hr
   simp only [List.map_nil, List.foldl_nil] at hr
   rw [hr, zao (by omega)]
theorem qfs : ∀ a : Tm, a.wt <= 1099511627776 -> FC Tryz.prog 236 [tmD a] [iD a.depth] :=
 zbd fun n xs ih hs => qdn (.mk n xs) hs fun x hx => ih x hx (by
  have := Tm.wt_eq (.mk n xs)
  have := zbl Tm.wt xs x hx
  simp only [Tm.args] at *; omega)
def zcm (a : Tm) : Bool := decide (a.nodes <= 30) && decide (a.depth <= 8)
theorem zni (a : Tm) (hs : a.wt <= 1099511627776) : FC Tryz.prog 191 [tmD a] [bD (zcm a)] := by
 simp only [tmD, zaa]
 refine zam Tryz.call191 Tryz.func191 rfl (by kernel_rfl) (za1 (by kernel_rfl)) ?_
 simp -implicitDefEqProofs only [go_sem, Tryz.results191]
 refine callF (size_c a hs) (by simp -implicitDefEqProofs only [go_sem, zaa]) ?_
 simp -implicitDefEqProofs only [go_sem, zaa]
 rw [qbk]
 refine ⟨fun h => ?_, fun h => ?_⟩
 ·refine callF (qfs a hs) (by simp -implicitDefEqProofs only [go_sem, zaa]) ?_
  simp -implicitDefEqProofs only [go_sem, zaa]
  rw [zcm, h, Bool.true_and]
  congr 1
  rw [decide_eq_decide]; omega
 ·rw [zcm, h]; rfl
end Go.Proofs.YtbccfiillleimaaGreat
namespace Go.Proofs.YtbccfiillleimaaGreat
set_option linter.unusedSimpArgs false
set_option linter.unusedVariables false
set_option linter.unusedSectionVars false
set_option maxRecDepth 4000
open Go.RowKit
theorem qdi (σ : St) (caps : List T) : VDs σ (caps.map fun t => .one (.t t)) (caps.map .one) = True := by
 induction caps with
 | nil => simp [VDs]
 | cons t ts ih => rw [List.map_cons, List.map_cons, zq3, ih]; simp [qeg, CT_t]
attribute [go_sem] qdi
def qdw {α : Type} (xs : List α) (p : α -> Bool) : Int := if xs.any p then xs.findIdx p else -1
theorem zj3 {α : Type} {xs : List α} {p : α -> Bool} {k : Nat} (hk : k < xs.length) (hn : ∀ x ∈ xs.take k, p x = false) (h : p xs[k] = true) : qdw xs p = k := by
 have ha : xs.any p = true := List.any_eq_true.2 ⟨xs[k], List.getElem_mem hk, h⟩
 have hf : xs.findIdx p = k := (List.findIdx_eq hk).2 ⟨h, fun j hj => hn _ (by
  rw [List.mem_take_iff_getElem]; exact ⟨j, by omega, rfl⟩)⟩
 rw [qdw, if_pos ha, hf]
theorem znx {α : Type} {xs : List α} {p : α -> Bool} (hn : ∀ x ∈ xs, p x = false) : qdw xs p = -1 := by
 have ha : xs.any p = false := by rw [List.any_eq_false]; exact fun x hx => by simp [hn x hx]
 rw [qdw, ha]; rfl
theorem zrx {α : Type} (xs : List α) (p : α -> Bool) : decide (0 <= qdw xs p) = xs.any p := by
 unfold qdw
 cases xs.any p <;> simp
theorem zgt {α : Type} {xs : List α} {p : α -> Bool} {k : Nat} (hk : k < xs.length) (hn : ∀ x ∈ xs.take k, p x = false) (h : p xs[k] = false) : ∀ x ∈ xs.take (k + 1), p x = false := by
 rw [List.take_succ_eq_append_getElem hk]
 intro x hx
 rcases List.mem_append.1 hx with hx | hx
 ·exact hn x hx
 ·rw [List.mem_singleton.1 hx]; exact h
theorem zik (xs : List Tm) (p : Tm -> Bool) (g : FuncId) (caps : List T) (H : ∀ x ∈ xs, FC Tryz.prog g (tmD x :: caps.map .one) [bD (p x)]) : FC Tryz.prog 122 [.one (tmS xs), .one (.fn g caps)] [iD (qdw xs p)] := by
 refine zdi (fun hw => ?_) Tryz.call122
 have hl : xs.length <= 9223372036854775807 := by simpa [zho, wfT] using hw.1.1
 refine zam Tryz.call122 Tryz.func122 rfl (by kernel_rfl) (za1 (by kernel_rfl)) ?_
 simp -implicitDefEqProofs only [go_sem, Tryz.results122]
 refine zae (fun k : Nat => hd [(0, vT (tmS xs)), (1, vT (.fn g caps)), (7, vI xs.length), (8, vI k)] [] []) (fun k => k <= xs.length /\ ∀ x ∈ xs.take k, p x = false) (fun k => xs.length - k) 0 (zac ?_) ?_ ?_
 ·simp -implicitDefEqProofs only [go_sem]
 ·simp
 ·intro k ⟨hk, hr⟩
  by_cases hlt : k < xs.length
  ·simp -implicitDefEqProofs only [go_sem, zai, hlt, zaa]
   refine callF (H xs[k] (List.getElem_mem hlt)) (by simp -implicitDefEqProofs only [go_sem, zaa]) ?_
   simp -implicitDefEqProofs only [go_sem, zaa]
   refine ⟨fun h => ?_, fun h => ⟨k + 1, ⟨hlt, zgt hlt hr h⟩, by omega, zac (by simp -implicitDefEqProofs only [go_sem]; rw [zao (by omega)])⟩⟩
   rw [zj3 hlt hr h]
  ·simp -implicitDefEqProofs only [go_sem, hlt]
   rw [List.take_of_length_le (by omega)] at hr
   rw [znx hr]
theorem zdn (xs : List Tm) (p : Tm -> Bool) (g : FuncId) (caps : List T) (H : ∀ x ∈ xs, FC Tryz.prog g (tmD x :: caps.map .one) [bD (p x)]) : FC Tryz.prog 63 [.one (tmS xs), .one (.fn g caps)] [bD (xs.any p)] := by
 refine zam Tryz.call63 Tryz.func63 rfl (by kernel_rfl) (za1 (by kernel_rfl)) ?_
 simp -implicitDefEqProofs only [go_sem, Tryz.results63]
 refine callF (zik xs p g caps H) (by simp -implicitDefEqProofs only [go_sem]) ?_
 simp -implicitDefEqProofs only [go_sem]
 rw [zrx]
theorem zf1 (xs : List Fm) (p : Fm -> Bool) (g : FuncId) (caps : List T) (H : ∀ x ∈ xs, FC Tryz.prog g (fmD x :: caps.map .one) [bD (p x)]) : FC Tryz.prog 234 [.one (fmS xs), .one (.fn g caps)] [iD (qdw xs p)] := by
 refine zdi (fun hw => ?_) Tryz.call234
 have hl : xs.length <= 9223372036854775807 := by simpa [zho, wfT] using hw.1.1
 refine zam Tryz.call234 Tryz.func234 rfl (by kernel_rfl) (za1 (by kernel_rfl)) ?_
 simp -implicitDefEqProofs only [go_sem, Tryz.results234]
 refine zae (fun k : Nat => hd [(0, vT (fmS xs)), (1, vT (.fn g caps)), (7, vI xs.length), (8, vI k)] [] []) (fun k => k <= xs.length /\ ∀ x ∈ xs.take k, p x = false) (fun k => xs.length - k) 0 (zac ?_) ?_ ?_
 ·simp -implicitDefEqProofs only [go_sem]
 ·simp
 ·intro k ⟨hk, hr⟩
  by_cases hlt : k < xs.length
  ·simp -implicitDefEqProofs only [go_sem, zai, hlt, zab, zaa]
   refine callF (H xs[k] (List.getElem_mem hlt)) (by simp -implicitDefEqProofs only [go_sem, zab, zaa]) ?_
   simp -implicitDefEqProofs only [go_sem, zab, zaa]
   refine ⟨fun h => ?_, fun h => ⟨k + 1, ⟨hlt, zgt hlt hr h⟩, by omega, zac (by simp -implicitDefEqProofs only [go_sem]; rw [zao (by omega)])⟩⟩
   rw [zj3 hlt hr h]
  ·simp -implicitDefEqProofs only [go_sem, hlt]
   rw [List.take_of_length_le (by omega)] at hr
   rw [znx hr]
theorem zar (xs : List Fm) (p : Fm -> Bool) (g : FuncId) (caps : List T) (H : ∀ x ∈ xs, FC Tryz.prog g (fmD x :: caps.map .one) [bD (p x)]) : FC Tryz.prog 189 [.one (fmS xs), .one (.fn g caps)] [bD (xs.any p)] := by
 refine zam Tryz.call189 Tryz.func189 rfl (by kernel_rfl) (za1 (by kernel_rfl)) ?_
 simp -implicitDefEqProofs only [go_sem, Tryz.results189]
 refine callF (zf1 xs p g caps H) (by simp -implicitDefEqProofs only [go_sem]) ?_
 simp -implicitDefEqProofs only [go_sem]
 rw [zrx]
end Go.Proofs.YtbccfiillleimaaGreat
namespace Go.Proofs.YtbccfiillleimaaGreat
set_option linter.unusedSimpArgs false
set_option linter.unusedVariables false
set_option linter.unusedSectionVars false
set_option maxRecDepth 4000
open Go.RowKit
def Tm.names : Tm -> Bool := Tm.fold fun n xs rs => if za2 n = true then decide (xs.length = 0) else zcg n && decide (xs.length <= 4) && rs.all id
theorem Tm.names_eq (a : Tm) : a.names = if za2 a.name = true then decide (a.args.length = 0) else zcg a.name && decide (a.args.length <= 4) && a.args.all Tm.names := by
 unfold Tm.names
 rw [Tm.fold_eq]
 simp only [List.all_map]
 rfl
theorem zc1 {α : Type} (xs : List α) (p : α -> Bool) : (!xs.any fun x => !p x) = xs.all p := by
 induction xs with
 | nil => rfl
 | cons x xs ih => simp only [List.any_cons, List.all_cons, Bool.not_or, Bool.not_not, ih]
theorem zqk (a : Tm) (H : ∀ x ∈ a.args, FC Tryz.prog 192 [tmD x] [bD x.names]) : FC Tryz.prog 192 [tmD a] [bD a.names] := by
 have H1 : ∀ x ∈ a.args, FC Tryz.prog 238 [tmD x] [bD (!x.names)] := fun x hx => by
  simp only [tmD, zaa]
  refine zam Tryz.call238 Tryz.func238 rfl (by kernel_rfl) (za1 (by kernel_rfl)) ?_
  simp -implicitDefEqProofs only [go_sem, Tryz.results238]
  refine callF (H x hx) (by simp -implicitDefEqProofs only [go_sem, zaa]) ?_
  simp -implicitDefEqProofs only [go_sem, zaa]
 have hN := a.names_eq
 simp only [tmD, zaa]
 refine zam Tryz.call192 Tryz.func192 rfl (by kernel_rfl) (za1 (by kernel_rfl)) ?_
 simp -implicitDefEqProofs only [go_sem, Tryz.results192]
 refine callF (zfb a.name) (by simp -implicitDefEqProofs only [go_sem]) ?_
 simp -implicitDefEqProofs only [go_sem]
 refine ⟨fun h => ?_, fun h => ?_⟩
 ·rw [hN, if_pos h]
  congr 1
  rw [Bool.eq_iff_iff]; simp
 ·rw [h] at hN
  simp only [Bool.false_eq_true, if_false] at hN
  refine callF (zjy a.name) (by simp -implicitDefEqProofs only [go_sem]) ?_
  simp -implicitDefEqProofs only [go_sem]
  refine ⟨fun h1 => ⟨fun h2 => ?_, fun h2 => ?_⟩, fun h1 => ?_⟩
  ·refine callF (zdn a.args (fun x => !x.names) _ [] H1) (by simp -implicitDefEqProofs only [go_sem]) ?_
   simp -implicitDefEqProofs only [go_sem]
   rw [zc1, hN, h1, Bool.true_and]
   rw [show decide (a.args.length <= 4) = true by simp at h2 ⊢; omega]; rfl
  ·rw [hN, h1, Bool.true_and, show decide (a.args.length <= 4) = false by simp at h2 ⊢; omega]; rfl
  ·rw [hN, h1]; rfl
theorem zgw : ∀ a : Tm, FC Tryz.prog 192 [tmD a] [bD a.names] := zbd fun n xs ih => zqk (.mk n xs) ih
def Tm.good (a : Tm) : Bool := zcm a && a.names
theorem zgi (a : Tm) (hs : a.wt <= 1099511627776) : FC Tryz.prog 123 [tmD a] [bD a.good] := by
 simp only [tmD, zaa]
 refine zam Tryz.call123 Tryz.func123 rfl (by kernel_rfl) (za1 (by kernel_rfl)) ?_
 simp -implicitDefEqProofs only [go_sem, Tryz.results123]
 refine callF (zni a hs) (by simp -implicitDefEqProofs only [go_sem, zaa]) ?_
 simp -implicitDefEqProofs only [go_sem, zaa]
 refine ⟨fun h => ?_, fun h => ?_⟩
 ·refine callF (zgw a) (by simp -implicitDefEqProofs only [go_sem, zaa]) ?_
  simp -implicitDefEqProofs only [go_sem, zaa]
  rw [Tm.good, h, Bool.true_and]
 ·rw [Tm.good, h, Bool.false_and]
theorem zod (a : Tm) : FC Tryz.prog 254 [tmD a] [bD (a.name == [61])] := by
 simp only [tmD, zaa]
 refine zam Tryz.call254 Tryz.func254 rfl (by kernel_rfl) (za1 (by kernel_rfl)) ?_
 simp -implicitDefEqProofs only [go_sem, Tryz.results254]
def Tm.atomOk (a : Tm) : Bool := if (a.name == [61]) = true then decide (a.args.length = 2) && zcm a && a.args.all Tm.names else zcg a.name && a.good
theorem zy1 {α : Type} {xs : List α} {p : α -> Bool} (h : xs.length = 2) : xs.all p = (p (xs[0]'(by omega)) && p (xs[1]'(by omega))) := by
 match xs, h with
 | [a, b], _ => simp
theorem zk1 (a : Tm) (hs : a.wt <= 1099511627776) : FC Tryz.prog 219 [tmD a] [bD a.atomOk] := by
 have hN : a.atomOk = if (a.name == [61]) = true then decide (a.args.length = 2) && zcm a && a.args.all Tm.names else zcg a.name && a.good := rfl
 simp only [tmD, zaa]
 refine zam Tryz.call219 Tryz.func219 rfl (by kernel_rfl) (za1 (by kernel_rfl)) ?_
 simp -implicitDefEqProofs only [go_sem, Tryz.results219]
 refine callF (zod a) (by simp -implicitDefEqProofs only [go_sem, zaa]) ?_
 simp -implicitDefEqProofs only [go_sem, zaa]
 refine ⟨fun h => ?_, fun h => ?_⟩
 ·rw [if_pos h] at hN
  by_cases h2 : a.args.length = 2
  ·have k0 : 0 < a.args.length := by omega
   have k1 : 1 < a.args.length := by omega
   have e2 : ((a.args.length : Int) == 2) = true := by simp [h2]
   have l0 : (0 : Int) < a.args.length := by omega
   have l1 : (1 : Int) < a.args.length := by omega
   rw [zy1 h2, show decide (a.args.length = 2) = true by simp [h2]] at hN
   simp only [Bool.true_and] at hN
   simp only [e2, zu5, zew, qge, zd6, and_true]
   refine callF (zni a hs) (by simp -implicitDefEqProofs only [go_sem, zaa, l0, zai, k0]) ?_
   simp -implicitDefEqProofs only [go_sem, zaa, l0, zai, k0]
   refine ⟨fun h3 => ?_, fun h3 => ?_⟩
   ·refine callF (zgw a.args[0]) (by simp -implicitDefEqProofs only [go_sem, zaa, l1, zai, k1]) ?_
    simp -implicitDefEqProofs only [go_sem, zaa, l1, zai, k1]
    refine ⟨fun h4 => ?_, fun h4 => ?_⟩
    ·refine callF (zgw a.args[1]) (by simp -implicitDefEqProofs only [go_sem, zaa]) ?_
     simp -implicitDefEqProofs only [go_sem, zaa]
     rw [hN, h3, h4]; rfl
    ·rw [hN, h3, h4]; rfl
   ·rw [hN, h3]; rfl
  ·have e2 : ((a.args.length : Int) == 2) = false := by simp; omega
   simp only [e2, zu5, qhr, zew, zd6, and_true, true_and, qf4]
   rw [hN, show decide (a.args.length = 2) = false by simpa using h2]; rfl
 ·rw [h] at hN
  simp only [Bool.false_eq_true, if_false] at hN
  refine callF (zjy a.name) (by simp -implicitDefEqProofs only [go_sem]) ?_
  simp -implicitDefEqProofs only [go_sem]
  refine ⟨fun h3 => ?_, fun h3 => ?_⟩
  ·refine callF (zgi a hs) (by simp -implicitDefEqProofs only [go_sem, zaa]) ?_
   simp -implicitDefEqProofs only [go_sem, zaa]
   rw [hN, h3, Bool.true_and]
  ·rw [hN, h3, Bool.false_and]
def Tm.none (a : Tm) : Bool := a.name == [] && decide (a.args.length = 0)
theorem zbq (a : Tm) : FC Tryz.prog 220 [tmD a] [bD a.none] := by
 simp only [tmD, zaa]
 refine zam Tryz.call220 Tryz.func220 rfl (by kernel_rfl) (za1 (by kernel_rfl)) ?_
 simp -implicitDefEqProofs only [go_sem, Tryz.results220]
 unfold Tm.none
 refine ⟨fun h => ?_, fun h => ?_⟩
 ·rw [h, Bool.true_and]
  congr 1
  rw [Bool.eq_iff_iff]; simp
 ·rw [h]; rfl
def isQ (n : Int) : Bool := n == 8 || n == 9
def zj7 (n : Int) : Bool := n == 5 || n == 6 || n == 7
theorem zaj (n : Int) : FC Tryz.prog 151 [iD n] [bD (isQ n)] := by
 refine zam Tryz.call151 Tryz.func151 rfl (by kernel_rfl) (za1 (by kernel_rfl)) ?_
 simp -implicitDefEqProofs only [go_sem, Tryz.results151]
 unfold isQ
 refine ⟨fun h => ?_, fun h => ?_⟩ <;> simp [h]
theorem zff (n : Int) : FC Tryz.prog 218 [iD n] [bD (zj7 n)] := by
 refine zam Tryz.call218 Tryz.func218 rfl (by kernel_rfl) (za1 (by kernel_rfl)) ?_
 simp -implicitDefEqProofs only [go_sem, Tryz.results218]
 unfold zj7
 refine ⟨fun h => ⟨fun h2 => ?_, fun h2 => ?_⟩, fun h => ?_⟩ <;> simp [*]
end Go.Proofs.YtbccfiillleimaaGreat
namespace Go.Proofs.YtbccfiillleimaaGreat
set_option linter.unusedSimpArgs false
set_option linter.unusedVariables false
set_option linter.unusedSectionVars false
set_option maxRecDepth 4000
open Go.RowKit
def voI : Tm -> List Str := Tm.fold fun n xs rs => if (decide (xs.length = 0) && zjf (n.getD 0 0)) = true then [n] else rs.flatten
theorem zrr (a : Tm) : voI a = if (decide (a.args.length = 0) && zjf (a.name.getD 0 0)) = true then [a.name] else (a.args.map voI).flatten := Tm.fold_eq _ a
def voS : Tm -> List Str := Tm.fold fun n _ rs => if za2 n = true then [n] else rs.flatten
theorem zja (a : Tm) : voS a = if za2 a.name = true then [a.name] else (a.args.map voS).flatten := Tm.fold_eq _ a
def Tm.ne : Tm -> Bool := Tm.fold fun n xs rs => (!decide (xs.length = 0) || decide (0 < n.length)) && rs.all id
theorem Tm.ne_eq' (a : Tm) : a.ne = ((!decide (a.args.length = 0) || decide (0 < a.name.length)) && a.args.all Tm.ne) := by
 unfold Tm.ne
 rw [Tm.fold_eq]
 simp only [List.all_map]
 rfl
def zko (l : List Str) (s : Str) : List Str := if l.contains s = true then l else l ++ [s]
def zby (l : List Str) (ss : List Str) : List Str := ss.foldl zko l
theorem qbh (l : List Str) (s : Str) : (zko l s).length <= l.length + 1 := by unfold zko; split <;> simp
theorem zdg : ∀ (ss : List Str) (l : List Str), (zby l ss).length <= l.length + ss.length
 | [], l => by simp [zby]
 | s :: ss, l => by have := zdg ss (zko l s); have := qbh l s; simp only [zby, List.foldl_cons, List.length_cons] at *; omega
theorem zgf (l a b : List Str) : zby l (a ++ b) = zby (zby l a) b := List.foldl_append ..
theorem qat (l : List Str) (s x : Str) : x ∈ zko l s ↔ x = s \/ x ∈ l := by
 unfold zko
 split
 ·rename_i h
  have h : s ∈ l := by simpa using h
  exact ⟨Or.inr, fun k => k.elim (fun e => e ▸ h) id⟩
 ·simp [or_comm]
theorem zoa : ∀ (ss l : List Str) (x : Str), x ∈ zby l ss ↔ x ∈ ss \/ x ∈ l
 | [], l, x => by simp [zby]
 | s :: ss, l, x => by
  show x ∈ zby (zko l s) ss ↔ _
  rw [zoa ss, qat]; simp [or_assoc, or_left_comm, or_comm]
theorem qf3 {l : List Str} (h : l.Nodup) (s : Str) : (zko l s).Nodup := by
 unfold zko
 split
 ·exact h
 ·rename_i hn
  have hn : s ∉ l := by simpa using hn
  exact List.nodup_append.2 ⟨h, by simp, fun a ha b hb e => hn (by rw [List.mem_singleton.1 hb] at e; exact e ▸ ha)⟩
theorem zra : ∀ (ss : List Str) {l : List Str}, l.Nodup -> (zby l ss).Nodup
 | [], _, h => h
 | s :: ss, _, h => zra ss (qf3 h s)
def zbg (l : List Str) (ss : List Str) : List Str := ss.foldl zq7 l
theorem zss (l : List Str) (s : Str) : (zq7 l s).length <= l.length + 1 := by
 unfold zq7
 split
 ·omega
 ·have : l.length = ((l.takeWhile fun x => Op.bytesLess x s) ++ l.dropWhile fun x => Op.bytesLess x s).length := by rw [List.takeWhile_append_dropWhile]
  simp only [List.length_append, List.length_cons, List.length_nil] at *; omega
theorem zcz : ∀ (ss : List Str) (l : List Str), (zbg l ss).length <= l.length + ss.length
 | [], l => by simp [zbg]
 | s :: ss, l => by have := zcz ss (zq7 l s); have := zss l s; simp only [zbg, List.foldl_cons, List.length_cons] at *; omega
theorem zgn (l a b : List Str) : zbg l (a ++ b) = zbg (zbg l a) b := List.foldl_append ..
theorem zmg : ∀ (ss l : List Str) (x : Str), x ∈ zbg l ss ↔ x ∈ ss \/ x ∈ l
 | [], l, x => by simp [zbg]
 | s :: ss, l, x => by
  show x ∈ zbg (zq7 l s) ss ↔ _
  rw [zmg ss, qbx]; simp [or_assoc, or_left_comm, or_comm]
theorem zmu : ∀ (ss : List Str) {l : List Str}, Srt l -> Srt (zbg l ss)
 | [], _, h => h
 | s :: ss, _, h => zmu ss (qdu h s)
theorem zle (ss : List Str) : zdj (zby [] ss) = zbg [] ss :=
 qe9 (zvf (zra ss List.nodup_nil)) (zmu ss List.Pairwise.nil) fun s => by rw [zyl, zoa, zmg]
theorem qgr (a : Tm) (h : 0 < a.name.length) : FC Tryz.prog 193 [tmD a] [bD (zjf (a.name.getD 0 0))] := by
 simp only [tmD, zaa]
 refine zam Tryz.call193 Tryz.func193 rfl (by kernel_rfl) (za1 (by kernel_rfl)) ?_
 simp -implicitDefEqProofs only [go_sem, Tryz.results193]
 have h0 : (0 : Int) < a.name.length := by omega
 simp -implicitDefEqProofs only [go_sem, h0, h]
 refine callF (zm8 (a.name.getD 0 0)) (by simp -implicitDefEqProofs only [go_sem]) ?_
 simp -implicitDefEqProofs only [go_sem]
theorem zch {α : Type} (f : α -> List Str) (xs : List α) (k : Nat) (h : k < xs.length) : ((xs.take (k + 1)).map f).flatten = ((xs.take k).map f).flatten ++ f xs[k] := by
 rw [List.take_succ_eq_append_getElem h, List.map_append, List.flatten_append]; simp
theorem zpa {α : Type} (f : α -> List Str) : ∀ (xs : List α), ∀ x ∈ xs, (f x).length <= ((xs.map f).flatten).length
 | [], x, h => by simp at h
 | a :: xs, x, h => by
  rcases List.mem_cons.1 h with rfl | h
  ·simp
  ·have := zpa f xs x h; simp at *; omega
theorem zbr {α : Type} (f : α -> List Str) (xs : List α) (k : Nat) (h : k < xs.length) : (((xs.take k).map f).flatten).length + (f xs[k]).length <= ((xs.map f).flatten).length := by
 have e : xs = xs.take k ++ xs[k] :: xs.drop (k + 1) := by rw [<- List.drop_eq_getElem_cons h, List.take_append_drop]
 conv => rhs; rw [e]
 simp only [List.map_append, List.map_cons, List.flatten_append, List.flatten_cons, List.length_append]; omega
set_option maxHeartbeats 1000000 in
theorem ztv (a : Tm) (ha : a.ne = true) (H : ∀ x ∈ a.args, ∀ ys : List Str, ys.length + (voI x).length <= 1073741824 -> GC Tryz.prog 124 [(true, .one (zb2 ys)), (false, tmD x)] [.one (zb2 (zby ys (voI x)))])
  (ys : List Str) (hs : ys.length + (voI a).length <= 1073741824) (hl : a.args.length <= 1099511627776) : GC Tryz.prog 124 [(true, .one (zb2 ys)), (false, tmD a)] [.one (zb2 (zby ys (voI a)))] := by
 have hv := zrr a
 rw [Tm.ne_eq'] at ha
 simp only [tmD, zaa]
 refine zog Tryz.call124 Tryz.func124 rfl (by kernel_rfl) (by simp only [List.length_cons, List.length_nil, Tryz.ntmps124]; omega) (by simp [zbz, T.isPin]) ?_
 simp -implicitDefEqProofs only [go_sem, Tryz.results124]
 by_cases h0 : a.args.length = 0
 ·have hn : 0 < a.name.length := by simp [h0] at ha; omega
  have e0 : ((a.args.length : Int) == 0) = true := by simp [h0]
  have hV := qgr a hn
  simp only [tmD, zaa] at hV
  simp -implicitDefEqProofs only [go_sem, e0]
  refine callF (hV) (by simp -implicitDefEqProofs only [go_sem]) ?_
  simp -implicitDefEqProofs only [go_sem]
  refine ⟨fun h1 => ?_, fun h1 => ?_⟩
  ·rw [h1, show decide (a.args.length = 0) = true by simpa using h0, Bool.true_and, if_pos rfl] at hv
   rw [hv] at hs ⊢
   refine callF (zc9 ys a.name) (by simp -implicitDefEqProofs only [go_sem]) ?_
   simp -implicitDefEqProofs only [go_sem]
   have hy : ys.length + 1 <= 4294967296 := by simp at hs; omega
   have hy2 : ys.length <= 4294967295 := by simp at hs; omega
   refine ⟨fun h2 => ?_, fun h2 => ?_⟩
   ·have h2 : ys.contains a.name = false := by simpa using h2
    refine zbm (by simp -implicitDefEqProofs only [go_sem]) ?_
    simp -implicitDefEqProofs only [go_sem]
    refine apD true (by simp -implicitDefEqProofs only [go_sem, hy, hy2, ne_eq, List.length_map]) ?_
    simp -implicitDefEqProofs only [go_sem, hy, hy2, ne_eq, List.length_map]
    have e : zby ys [a.name] = ys ++ [a.name] := by show zko ys a.name = _; unfold zko; rw [h2]; simp
    exact Or.inl (by rw [e]; simp)
   ·have h2 : ys.contains a.name = true := by simpa using h2
    have e : zby ys [a.name] = ys := by show zko ys a.name = _; unfold zko; rw [h2]; simp
    exact Or.inl (by rw [e])
  ·rw [h1, Bool.and_false, if_neg (by simp), List.length_eq_zero_iff.1 h0, List.map_nil, List.flatten_nil] at hv
   have hv : voI a = (a.args.map voI).flatten := by rw [hv, List.length_eq_zero_iff.1 h0]; rfl
   rw [hv] at hs ⊢
   refine zae (fun k : Nat => hd [(0, .one (.ow 0 0)), (27, .one (.rn (tmS a.args))), (28, vI a.args.length), (29, vI k)] [] [(0, ⟨true, 1, (zby ys ((a.args.take k).map voI).flatten).map fun s => [.str s], 0, true⟩)]) (fun k => k <= a.args.length) (fun k => a.args.length - k) 0 (zac ?_) (Nat.zero_le _) ?_
   ·simp -implicitDefEqProofs only [go_sem]
    rfl
   ·intro k hk
    by_cases hlt : k < a.args.length
    ·have hf := zbr voI a.args k hlt
     have hL := zdg ((a.args.take k).map voI).flatten ys
     have hx := zpa voI a.args _ (List.getElem_mem hlt)
     have HC := H a.args[k] (List.getElem_mem hlt) (zby ys ((a.args.take k).map voI).flatten) (by omega)
     rw [<- zgf, <- zch voI a.args k hlt] at HC
     simp only [tmD, zaa a.args[k]] at HC
     simp -implicitDefEqProofs only [go_sem, zai, hlt, zaa a.args[k]]
     refine zcj [27, 28, 29] [33, 34] [] (HC) (by simp -implicitDefEqProofs only [go_sem]) (by simp -implicitDefEqProofs only [go_sem]) (by simp -implicitDefEqProofs only [go_sem]) (by simp -implicitDefEqProofs only [go_sem]) ?_
     simp -implicitDefEqProofs only [go_sem]
     refine ⟨k + 1, hlt, by omega, zda 0 1120 ?_⟩
     simp -implicitDefEqProofs only [go_sem]
     rw [zao (by omega)]
    ·simp -implicitDefEqProofs only [go_sem, hlt]
     exact Or.inl (by rw [List.take_of_length_le (by omega)])
 ·have e0 : ((a.args.length : Int) == 0) = false := by simp [h0]
  rw [show decide (a.args.length = 0) = false by simpa using h0, Bool.false_and, if_neg (by simp)] at hv
  rw [hv] at hs ⊢
  simp -implicitDefEqProofs only [go_sem, e0]
  refine zae (fun k : Nat => hd [(0, .one (.ow 0 0)), (27, .one (.rn (tmS a.args))), (28, vI a.args.length), (29, vI k)] [] [(0, ⟨true, 1, (zby ys ((a.args.take k).map voI).flatten).map fun s => [.str s], 0, true⟩)]) (fun k => k <= a.args.length) (fun k => a.args.length - k) 0 (zac ?_) (Nat.zero_le _) ?_
  ·simp -implicitDefEqProofs only [go_sem]
   rfl
  ·intro k hk
   by_cases hlt : k < a.args.length
   ·have hf := zbr voI a.args k hlt
    have hL := zdg ((a.args.take k).map voI).flatten ys
    have hx := zpa voI a.args _ (List.getElem_mem hlt)
    have HC := H a.args[k] (List.getElem_mem hlt) (zby ys ((a.args.take k).map voI).flatten) (by omega)
    rw [<- zgf, <- zch voI a.args k hlt] at HC
    simp only [tmD, zaa a.args[k]] at HC
    simp -implicitDefEqProofs only [go_sem, zai, hlt, zaa a.args[k]]
    refine zcj [27, 28, 29] [33, 34] [] (HC) (by simp -implicitDefEqProofs only [go_sem]) (by simp -implicitDefEqProofs only [go_sem]) (by simp -implicitDefEqProofs only [go_sem]) (by simp -implicitDefEqProofs only [go_sem]) ?_
    simp -implicitDefEqProofs only [go_sem]
    refine ⟨k + 1, hlt, by omega, zda 0 1120 ?_⟩
    simp -implicitDefEqProofs only [go_sem]
    rw [zao (by omega)]
   ·simp -implicitDefEqProofs only [go_sem, hlt]
    exact Or.inl (by rw [List.take_of_length_le (by omega)])
theorem zmk : ∀ a : Tm, a.ne = true -> a.wt <= 1099511627776 -> ∀ ys : List Str, ys.length + (voI a).length <= 1073741824 -> GC Tryz.prog 124 [(true, .one (zb2 ys)), (false, tmD a)] [.one (zb2 (zby ys (voI a)))] :=
 zbd fun n xs ih ha hw ys hs => ztv (.mk n xs) ha (fun x hx ys hs => ih x hx (by rw [Tm.ne_eq', Bool.and_eq_true] at ha; exact List.all_eq_true.1 ha.2 x hx) (by
  have := Tm.wt_eq (.mk n xs)
  have := zbl Tm.wt xs x hx
  simp only [Tm.args] at *; omega) ys hs) ys hs (by have := Tm.wt_eq (.mk n xs); omega)
theorem zp4 (a : Tm) (ha : a.ne = true) (hw : a.wt <= 1099511627776) (hs : (voI a).length <= 1073741824) : FC Tryz.prog 205 [tmD a] [.one (zb2 (zbg [] (voI a)))] := by
 have HC := zmk a ha hw [] (by simpa using hs)
 have HS := zij (zby [] (voI a)) (by have := zdg (voI a) []; simp at this; omega)
 rw [zle] at HS
 simp only [tmD, zaa] at HC ⊢
 refine zc6 Tryz.call205 Tryz.func205 rfl (by kernel_rfl) (za1 (by kernel_rfl)) ?_
 simp -implicitDefEqProofs only [go_sem, Tryz.results205]
 refine zbm (by simp -implicitDefEqProofs only [go_sem]) ?_
 simp -implicitDefEqProofs only [go_sem]
 refine zcj [] [4, 5] [] (HC) (by simp -implicitDefEqProofs only [go_sem]) (by simp -implicitDefEqProofs only [go_sem]) (by simp -implicitDefEqProofs only [go_sem]) (by simp -implicitDefEqProofs only [go_sem]) ?_
 simp -implicitDefEqProofs only [go_sem]
 refine zwc (HS) (by simp -implicitDefEqProofs only [go_sem, zbs]) (by simp -implicitDefEqProofs only [go_sem, zbs]) rfl ?_
 simp -implicitDefEqProofs only [go_sem, zbs]
theorem zyz (a : Tm) (H : ∀ x ∈ a.args, ∀ ys : List Str, ys.length + (voS x).length <= 1073741824 -> GC Tryz.prog 161 [(true, .one (zb2 ys)), (false, tmD x)] [.one (zb2 (zbg ys (voS x)))])
  (ys : List Str) (hs : ys.length + (voS a).length <= 1073741824) (hl : a.args.length <= 1099511627776) : GC Tryz.prog 161 [(true, .one (zb2 ys)), (false, tmD a)] [.one (zb2 (zbg ys (voS a)))] := by
 have hv := zja a
 simp only [tmD, zaa]
 refine zog Tryz.call161 Tryz.func161 rfl (by kernel_rfl) (by simp only [List.length_cons, List.length_nil, Tryz.ntmps161]; omega) (by simp [zbz, T.isPin]) ?_
 simp -implicitDefEqProofs only [go_sem, Tryz.results161]
 refine callF (zib a.name) (by simp -implicitDefEqProofs only [go_sem]) ?_
 simp -implicitDefEqProofs only [go_sem]
 refine ⟨fun h => ?_, fun h => ?_⟩
 ·rw [if_pos h] at hv
  rw [hv] at hs ⊢
  refine zcj [] [9, 11] [] (zym ys a.name (by simp at hs; omega)) (by simp -implicitDefEqProofs only [go_sem]) (by simp -implicitDefEqProofs only [go_sem]) (by simp -implicitDefEqProofs only [go_sem]) (by simp -implicitDefEqProofs only [go_sem]) ?_
  simp -implicitDefEqProofs only [go_sem]
  exact Or.inl rfl
 ·rw [h, if_neg (by simp)] at hv
  rw [hv] at hs ⊢
  refine zae (fun k : Nat => hd [(0, .one (.ow 0 0)), (3, .one (.bx 3 0)), (5, vI k)] [(3, [.t (.str a.name), .rn (tmS a.args)])] [(0, ⟨true, 1, (zbg ys ((a.args.take k).map voS).flatten).map fun s => [.str s], 0, true⟩)]) (fun k => k <= a.args.length) (fun k => a.args.length - k) 0 (zac ?_) (Nat.zero_le _) ?_
  ·simp -implicitDefEqProofs only [go_sem]
   rfl
  ·intro k hk
   by_cases hlt : k < a.args.length
   ·have hf := zbr voS a.args k hlt
    have hL := zcz ((a.args.take k).map voS).flatten ys
    have HC := H a.args[k] (List.getElem_mem hlt) (zbg ys ((a.args.take k).map voS).flatten) (by omega)
    rw [<- zgn, <- zch voS a.args k hlt] at HC
    simp only [tmD, zaa a.args[k]] at HC
    simp -implicitDefEqProofs only [go_sem, zai, hlt, zaa a.args[k]]
    refine zcj [3, 5] [20, 25] [] (HC) (by simp -implicitDefEqProofs only [go_sem]) (by simp -implicitDefEqProofs only [go_sem]) (by simp -implicitDefEqProofs only [go_sem]) (by simp -implicitDefEqProofs only [go_sem]) ?_
    simp -implicitDefEqProofs only [go_sem]
    refine ⟨k + 1, hlt, by omega, zda 0 832 ?_⟩
    simp -implicitDefEqProofs only [go_sem]
    rw [zao (by omega)]
   ·simp -implicitDefEqProofs only [go_sem, hlt]
    exact Or.inl (by rw [List.take_of_length_le (by omega)])
end Go.Proofs.YtbccfiillleimaaGreat
