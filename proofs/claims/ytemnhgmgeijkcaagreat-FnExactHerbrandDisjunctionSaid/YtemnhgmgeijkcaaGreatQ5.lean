/-
  The walk over plain data, and contracts of functions of the program and of its laws.
  Conditions: those that each theorem names.
-/
import Derived.Test.YtemnhgmgeijkcaaGreatQ4
import Derived.Test.YtemnhgmgeijkcaaGreatProg
import Derived.KernelRfl
import Derived.Test.YtemnhgmgeijkcaaGreatQ1
import Derived.Sort.OwnSorted
import Derived.Sort.KeysCollected
import Derived.Sort.Walk0
import Derived.Laws.AppendOwn
import Derived.Shelf.Sort.Plain
import Derived.Shelf.Slices.In.SortNone
import Derived.Shelf.Slices.CompactS
import Derived.Lib.SliceRun
namespace Go.Proofs.YtemnhgmgeijkcaaGreat
set_option linter.unusedSimpArgs false
set_option linter.unusedVariables false
set_option linter.unusedSectionVars false
set_option maxRecDepth 4000
open Go.RowKit
variable {P : Program}
theorem zax.append {w : World} {A : Nat -> Prop} : ∀ {d1 d2 : List (Bool × D)} {v1 v2 : List Value} {f1 f2 t1 t2 : List Nat}, zax w A d1 v1 f1 t1 -> zax w A d2 v2 f2 t2 -> zax w A (d1 ++ d2) (v1 ++ v2) (f1 ++ f2) (t1 ++ t2)
 | [], _, _, _, _, _, _, _, h, k => by obtain ⟨rfl, rfl, rfl⟩ := h; exact k
 | (true, d) :: ds, _, _, _, _, _, _, _, h, k => by
  obtain ⟨v, vs', g1, g2, s1, s2, rfl, rfl, rfl, h1, h2⟩ := h
  exact ⟨v, _, g1, _, s1, _, rfl, by rw [List.append_assoc], by rw [List.append_assoc], h1, zax.append h2 k⟩
 | (false, d) :: ds, _, _, _, _, _, _, _, h, k => by
  obtain ⟨v, vs', rfl, h1, h2⟩ := h
  exact ⟨v, _, rfl, h1, zax.append h2 k⟩
def zer : List (Bool × D) -> List (Bool × T)
 | [] => []
 | (b, .one t) :: ds => (b, t) :: zer ds
 | (b, .agg ts) :: ds => ts.map (fun t => (b, t)) ++ zer ds
def bxA (box : List (Bool × T)) : List (Bool × D) := box.map fun p => (p.1, .one p.2)
theorem zr1.ones {w : World} {A : Nat -> Prop} : ∀ {ts : List T} {vs : List Value} {fp tp : List Nat}, zr1 w ts vs fp tp -> zax w A (bxA (ts.map fun t => (true, t))) vs fp tp
 | [], _, _, _, h => h
 | t :: ts, _, _, _, h => by
  obtain ⟨v, vs', f1, f2, t2, rfl, rfl, rfl, h1, h2⟩ := h
  exact ⟨v, vs', f1, f2, _, t2, rfl, rfl, rfl, ⟨h1, rfl⟩, zr1.ones h2⟩
theorem zad.ones {w : World} {A : Nat -> Prop} : ∀ {ts : List T} {vs : List Value}, zad w A ts vs -> zax w A (bxA (ts.map fun t => (false, t))) vs [] []
 | [], _, h => by unfold zad at h; exact ⟨h, rfl, rfl⟩
 | t :: ts, _, h => by
  unfold zad at h
  obtain ⟨v, vs', rfl, h1, h2⟩ := h
  exact ⟨v, vs', rfl, h1, zad.ones h2⟩
theorem zju (a b : List (Bool × T)) : bxA (a ++ b) = bxA a ++ bxA b := List.map_append
theorem zak.cells1 {w : World} {A : Nat -> Prop} {t : T} {v : Value} (h : zak w A t v) : v.cells = #[v] := (zak.one h).2
theorem zax.flat {w : World} {A : Nat -> Prop} : ∀ {ds : List (Bool × D)} {vs : List Value} {fp tp : List Nat}, zax w A ds vs fp tp -> ∃ tp', zax w A (bxA (zer ds)) (vs.flatMap fun u => u.cells.toList) fp tp'
 | [], _, _, _, h => by obtain ⟨rfl, rfl, rfl⟩ := h; exact ⟨[], rfl, rfl, rfl⟩
 | (true, .one t) :: ds, _, _, _, h => by
  obtain ⟨v, vs', f1, f2, t1, t2, rfl, rfl, rfl, h1, h2⟩ := h
  obtain ⟨tp', h2⟩ := zax.flat h2
  have e : (v :: vs').flatMap (fun u => u.cells.toList) = v :: vs'.flatMap fun u => u.cells.toList := by
   have h1' : zat w t v f1 := h1.1
   simp [h1'.one]
  exact ⟨t1 ++ tp', v, _, f1, f2, t1, tp', e, rfl, rfl, h1, h2⟩
 | (false, .one t) :: ds, _, _, _, h => by
  obtain ⟨v, vs', rfl, h1, h2⟩ := h
  obtain ⟨tp', h2⟩ := zax.flat h2
  have e : (v :: vs').flatMap (fun u => u.cells.toList) = v :: vs'.flatMap fun u => u.cells.toList := by
   have h1' : zak w A t v := h1
   simp [h1'.cells1]
  exact ⟨tp', v, _, e, h1, h2⟩
 | (true, .agg ts) :: ds, _, _, _, h => by
  obtain ⟨v, vs', f1, f2, t1, t2, rfl, rfl, rfl, ⟨a, rfl, h1⟩, h2⟩ := h
  obtain ⟨tp', h2⟩ := zax.flat h2
  refine ⟨t1 ++ tp', ?_⟩
  show zax w A (bxA (ts.map (fun t => (true, t)) ++ zer ds)) (a ++ vs'.flatMap fun u => u.cells.toList) _ _
  rw [zju]
  exact zax.append h1.ones h2
 | (false, .agg ts) :: ds, _, _, _, h => by
  obtain ⟨v, vs', rfl, ⟨a, rfl, h1⟩, h2⟩ := h
  obtain ⟨tp', h2⟩ := zax.flat h2
  refine ⟨[] ++ tp', ?_⟩
  show zax w A (bxA (ts.map (fun t => (false, t)) ++ zer ds)) (a ++ vs'.flatMap fun u => u.cells.toList) _ _
  rw [zju]
  exact zax.append h1.ones h2
def mC1 (d j : Nat) : Bool × T -> C
 | (true, t) => owC d j t
 | (false, t) => t.toN
def mC (d : Nat) : Nat -> List (Bool × T) -> List C
 | _, [] => []
 | j, p :: ts => mC1 d j p :: mC d (j + 1) ts
def mE (d : Nat) : Nat -> List (Bool × T) -> (Nat -> Option Ev) -> (Nat -> Option Ev)
 | _, [], f => f
 | j, (true, t) :: ts, f => mE d (j + 1) ts (zt9 d j f t)
 | j, (false, _) :: ts, f => mE d (j + 1) ts f
def mF (d : Nat) : Nat -> List (Bool × T) -> (Nat -> Option Ev) -> Prop
 | _, [], _ => True
 | j, (true, t) :: ts, f => qcg d j f t /\ mF d (j + 1) ts (zt9 d j f t)
 | j, (false, _) :: ts, f => mF d (j + 1) ts f
def mD (d : Nat) : Nat -> List (Bool × D) -> List V
 | _, [] => []
 | j, (b, .one t) :: ds => .one (mC1 d j (b, t)) :: mD d (j + 1) ds
 | j, (b, .agg ts) :: ds => .agg (mC d j (ts.map fun t => (b, t))) :: mD d (j + ts.length) ds
theorem zxe (d : Nat) : ∀ (ts : List (Bool × T)) (j : Nat), (mC d j ts).length = ts.length
 | [], _ => rfl
 | t :: ts, j => by simp [mC, zxe d ts]
theorem zi1 (d : Nat) : ∀ (t1 t2 : List (Bool × T)) (j : Nat), mC d j (t1 ++ t2) = mC d j t1 ++ mC d (j + t1.length) t2
 | [], _, _ => by simp [mC]
 | t :: ts, t2, j => by simp only [List.cons_append, mC, zi1 d ts t2 (j + 1), List.length_cons]; rw [show j + 1 + ts.length = j + (ts.length + 1) by omega]
theorem zx1 (d : Nat) : ∀ (ds : List (Bool × D)) (j : Nat), ∀ x ∈ mD d j ds, x.isTup = false
 | [], _, x, hx => by simp [mD] at hx
 | (_, .one t) :: ds, j, x, hx => by
  simp only [mD, List.mem_cons] at hx
  rcases hx with rfl | hx
  ·rfl
  ·exact zx1 d ds _ x hx
 | (_, .agg ts) :: ds, j, x, hx => by
  simp only [mD, List.mem_cons] at hx
  rcases hx with rfl | hx
  ·rfl
  ·exact zx1 d ds _ x hx
theorem New.mix {τ : St} {g : Gh} {NB : Nat -> Prop} {w' : World} {A : Nat -> Prop} (d : Nat) : ∀ (ts : List (Bool × T)) (vs : List Value) (fp tp : List Nat) (j : Nat) (ev' : Nat -> Option Ev) (g' : Gh) (F : List Nat), New τ g NB w' ev' g' F -> mF d j ts ev' -> zax w' A (bxA ts) vs fp tp -> fp.Nodup -> (∀ b ∈ fp, NB b /\ b ∉ F) →
  ∃ g'', New τ g NB w' (mE d j ts ev') g'' (F ++ fp) /\ (∀ e, ev' e ≠ none -> mE d j ts ev' e = ev' e /\ g''.ψ e = g'.ψ e) /\ ∀ (σ' : St) (w'' : World), σ'.ev = mE d j ts ev' -> (∀ t v, zak w' A t v -> zak w'' (zco σ' g'' w'') t v) -> CRs σ' g'' w'' (mC d j ts) vs
 | [], vs, fp, tp, j, ev', g', F, hN, hf, ho, hd, hb => by
  obtain ⟨rfl, rfl, rfl⟩ := ho
  exact ⟨g', by simpa [mE] using hN, fun e _ => ⟨rfl, rfl⟩, fun _ _ _ _ => rfl⟩
 | (false, t) :: ts, vs, fp, tp, j, ev', g', F, hN, hf, ho, hd, hb => by
  obtain ⟨v, vs', rfl, h1, h2⟩ := ho
  obtain ⟨g'', k1, k2, k3⟩ := New.mix d ts vs' fp tp (j + 1) ev' g' F hN hf h2 hd hb
  exact ⟨g'', k1, k2, fun σ' w'' hσ hr => ⟨v, vs', rfl, zx9 (hr t v h1), k3 σ' w'' hσ hr⟩⟩
 | (true, t) :: ts, vs, fp, tp, j, ev', g', F, hN, hf, ho, hd, hb => by
  obtain ⟨v, vs', f1, f2, t1, t2, rfl, rfl, rfl, ⟨h1, _⟩, h2⟩ := ho
  obtain ⟨hf1, hf2⟩ := hf
  obtain ⟨hd1, hd2, hd3⟩ := List.nodup_append.1 hd
  have h1 : zat w' t v f1 := h1
  by_cases hfl : t.flat = true
  ·have hz : f1 = [] /\ owC d j t = .t t /\ zt9 d j ev' t = ev' /\ ∀ (σ' : St) (g'' : Gh) (w'' : World), CR σ' g'' w'' (.t t) v := by
    cases t <;> simp only [T.flat, Bool.false_eq_true] at hfl
    ·unfold zat at h1; exact ⟨h1.2.2.2, rfl, rfl, fun _ _ _ => by simp only [CR, zak]; exact ⟨h1.1, h1.2.1, h1.2.2.1⟩⟩
    ·unfold zat at h1; exact ⟨h1.2, rfl, rfl, fun _ _ _ => by simp only [CR, zak]; exact h1.1⟩
    ·unfold zat at h1; exact ⟨h1.2.2, rfl, rfl, fun _ _ _ => by simp only [CR, zak]; exact ⟨h1.1, h1.2.1⟩⟩
    ·unfold zat at h1; exact ⟨h1.2, rfl, rfl, fun _ _ _ => by simp only [CR, zak]; exact h1.1⟩
   obtain ⟨rfl, c2, c3, c4⟩ := hz
   rw [c3] at hf2
   obtain ⟨g'', k1, k2, k3⟩ := New.mix d ts vs' f2 t2 (j + 1) ev' g' F hN hf2 h2 hd2 (fun b hb' => hb b (by simp [hb']))
   refine ⟨g'', by simpa [mE, c3] using k1, fun e he => by simpa [mE, c3] using k2 e he, fun σ' w'' hσ hr => ⟨v, vs', rfl, ?_, k3 σ' w'' (by simpa [mE, c3] using hσ) hr⟩⟩
   show CR σ' g'' w'' (owC d j t) v
   rw [c2]; exact c4 _ _ _
  ·cases t <;> simp only [T.flat, Bool.false_eq_true, not_false_eq_true, not_true] at hfl
   ·rename_i sz rows
    have hi' : ev' (d * 32 + j) = none := hf1
    have hi : τ.ev (d * 32 + j) = none := by
     cases hx : τ.ev (d * 32 + j) with
     | none => rfl
     | some x => have := (hN.old (d * 32 + j) (by rw [hx]; simp)).1; rw [hi', hx] at this; cases this
    have hadd := hN.add hi hi' h1 (fun b hb' => (hb b (by simp [hb'])).1) hd1 (fun b hb' => (hb b (by simp [hb'])).2)
    obtain ⟨g'', k1, k2, k3⟩ := New.mix d ts vs' f2 t2 (j + 1) _ _ _ hadd hf2 h2 hd2 (fun b hb' => ⟨(hb b (by simp [hb'])).1, by
      have := (hb b (by simp [hb'])).2
      simp only [List.mem_append, not_or]
      exact ⟨this, fun hf => hd3 b hf b hb' rfl⟩⟩)
    refine ⟨g'', by simpa [mE, zt9] using k1, fun e he => ?_, fun σ' w'' hσ hr => ⟨v, vs', rfl, ?_, k3 σ' w'' hσ hr⟩⟩
    ·have hne : e ≠ d * 32 + j := fun h => he (h ▸ hi')
     have := k2 e (by rw [zan _ _ hne]; exact he)
     simp only [zan _ _ hne] at this
     exact this
    ·have := k2 (d * 32 + j) (by rw [zah]; simp)
     simp only [zah] at this
     exact ⟨by rw [this.2], _, by rw [hσ]; exact this.1, Nat.zero_le _⟩
   ·unfold zat at h1; exact h1.elim
   ·unfold zat at h1; exact h1.elim
   ·unfold zat at h1; exact h1.elim
   ·exact (show False from hf1).elim
theorem zxr {σ : St} {g : Gh} {w w1 : World} {A : Nat -> Prop} (d : Nat) : ∀ {ds : List (Bool × D)} {us : List Value} {fp tp : List Nat} (j : Nat), zax w1 A ds us fp tp -> CRs σ g w (mC d j (zer ds)) (us.flatMap fun u => u.cells.toList) -> VRl σ g w (mD d j ds) us
 | [], us, fp, tp, j, h, _ => h.1
 | (true, .one t) :: ds, us, fp, tp, j, h, k => by
  obtain ⟨v, vs', f1, f2, t1, t2, rfl, rfl, rfl, h1, h2⟩ := h
  have hv : zat w1 t v f1 := h1.1
  simp only [List.flatMap_cons, hv.one, zer, mC] at k
  obtain ⟨u, us', e, k1, k2⟩ := k
  simp only [List.cons_append, List.nil_append, List.cons.injEq] at e
  obtain ⟨rfl, rfl⟩ := e
  exact ⟨v, vs', rfl, k1, zxr d (j + 1) h2 k2⟩
 | (false, .one t) :: ds, us, fp, tp, j, h, k => by
  obtain ⟨v, vs', rfl, h1, h2⟩ := h
  have hv : zak w1 A t v := h1
  simp only [List.flatMap_cons, hv.cells1, zer, mC] at k
  obtain ⟨u, us', e, k1, k2⟩ := k
  simp only [List.cons_append, List.nil_append, List.cons.injEq] at e
  obtain ⟨rfl, rfl⟩ := e
  exact ⟨v, vs', rfl, k1, zxr d (j + 1) h2 k2⟩
 | (true, .agg ts) :: ds, us, fp, tp, j, h, k => by
  obtain ⟨v, vs', f1, f2, t1, t2, rfl, rfl, rfl, ⟨x, rfl, h1⟩, h2⟩ := h
  simp only [List.flatMap_cons, Value.cells, zer, zi1] at k
  obtain ⟨v1, v2, e, k1, k2⟩ := k.split
  have hl : x.length = v1.length := by rw [k1.len, zxe, List.length_map]; exact zas.len (zas.of_g h1)
  obtain ⟨e1, e2⟩ := List.append_inj e hl
  subst e1 e2
  rw [List.length_map] at k2
  exact ⟨_, vs', rfl, ⟨x, rfl, k1⟩, zxr d (j + ts.length) h2 k2⟩
 | (false, .agg ts) :: ds, us, fp, tp, j, h, k => by
  obtain ⟨v, vs', rfl, ⟨x, rfl, h1⟩, h2⟩ := h
  simp only [List.flatMap_cons, Value.cells, zer, zi1] at k
  obtain ⟨v1, v2, e, k1, k2⟩ := k.split
  have hl : x.length = v1.length := by rw [k1.len, zxe, List.length_map]; exact h1.len
  obtain ⟨e1, e2⟩ := List.append_inj e hl
  subst e1 e2
  rw [List.length_map] at k2
  exact ⟨_, vs', rfl, ⟨x, rfl, k1⟩, zxr d (j + ts.length) h2 k2⟩
theorem zgs {σ : St} {g : Gh} {w : World} {n0 : Nat -> Prop} {N : Nat} {a : Act} (hR : Rel n0 N σ g a w) {B : Sr -> List Nat} (hB : Fam w σ g B) {K : List Sr -> Prop} : ∀ {xs : List V} {ds : List (Bool × D)} {u : List Sr} {ps : List (Nat × Nat × Nat)} {vs : List Value}, gvA σ K u ps xs ds -> VRl σ g w xs vs →
  ∃ s, K (s.reverse ++ u) /\ (∃ tp, zax w (zco σ g w) ds vs (bks B s) tp) /\ (∀ x ∈ s, σ.On x.1) /\ (u.Pairwise okP -> (s.reverse ++ u).Pairwise okP)
 | [], [], u, ps, vs, h, hv => ⟨[], h, ⟨[], hv, rfl, rfl⟩, by simp, fun h => h⟩
 | [], _ :: _, _, _, _, h, _ => h.elim
 | x :: xs, [], _, _, _, h, _ => by cases x <;> exact h.elim
 | x :: xs, (false, d) :: ds, u, ps, vs, h, hv => by
  obtain ⟨v, vs', rfl, h1, h2⟩ := hv
  unfold gvA at h
  obtain ⟨hr, h⟩ := h
  obtain ⟨s, k1, ⟨tp, k2⟩, k3, k4⟩ := zgs hR hB h h2
  exact ⟨s, k1, ⟨tp, v, vs', rfl, rdV_fr hr h1, k2⟩, k3, k4⟩
 | .one c :: xs, (true, .one t) :: ds, u, ps, vs, h, hv => by
  obtain ⟨v, vs', rfl, h1, h2⟩ := hv
  unfold gvA at h
  obtain ⟨s, ps', tp, k1, k2, k3, k4⟩ := zcq hR hB h (vs := [v]) ⟨v, [], rfl, h1, rfl⟩
  obtain ⟨s', j1, ⟨tp', j2⟩, j3, j4⟩ := zgs hR hB k1 h2
  obtain ⟨v0, vs0, f1, f2, t2, e0, e1, rfl, q1, q2⟩ := k2
  cases e0
  obtain ⟨_, rfl, rfl⟩ := q2
  rw [List.append_nil] at e1
  refine ⟨s ++ s', by simpa using j1, ⟨zhw t f1 ++ tp', v, vs', bks B s, bks B s', _, tp', rfl, by unfold bks; rw [List.flatMap_append], rfl, ⟨by rw [e1]; exact q1, by rw [e1]⟩, j2⟩, fun x hx => ?_, fun hu => by simpa using j4 (k4 hu)⟩
  rcases List.mem_append.1 hx with hx | hx
  ·exact k3 x hx
  ·exact j3 x hx
 | .agg cs :: xs, (true, .agg ts) :: ds, u, ps, vs, h, hv => by
  obtain ⟨v, vs', rfl, ⟨y, rfl, h1⟩, h2⟩ := hv
  unfold gvA at h
  obtain ⟨s, ps', tp, k1, k2, k3, k4⟩ := zcq hR hB h h1
  obtain ⟨s', j1, ⟨tp', j2⟩, j3, j4⟩ := zgs hR hB k1 h2
  refine ⟨s ++ s', by simpa using j1, ⟨tp ++ tp', _, vs', bks B s, bks B s', tp, tp', rfl, by unfold bks; rw [List.flatMap_append], rfl, ⟨y, rfl, k2⟩, j2⟩, fun x hx => ?_, fun hu => by simpa using j4 (k4 hu)⟩
  rcases List.mem_append.1 hx with hx | hx
  ·exact k3 x hx
  ·exact j3 x hx
 | .one _ :: _, (true, .agg _) :: _, _, _, _, h, _ => h.elim
 | .agg _ :: _, (true, .one _) :: _, _, _, _, h, _ => h.elim
 | .tup _ :: _, (true, d) :: _, _, _, _, h, _ => by cases d <;> exact h.elim
def XC (P : Program) (f : FuncId) (args res : List (Bool × D)) : Prop := za0 P f /\ ∀ (w : World) (vs : List Value) (fp tp : List Nat) (A : Nat -> Prop), zax w (fun k => (k < w.heap.size /\ k ∉ fp) /\ A k) args vs fp tp -> fp.Nodup →
 Calls P f ⟨vs⟩ w fun e w' => ∃ us fp' tp', e = .returned (zbw us) /\ zax w' (fun k => (k < w'.heap.size /\ k ∉ fp') /\ (A k \/ w.heap.size <= k \/ k ∈ fp)) res us fp' tp' /\ fp'.Nodup /\ (∀ b ∈ fp', b ∈ fp \/ w.heap.size <= b) /\ Bk (fun k => k < w.heap.size /\ k ∉ fp) w w'
def PM0 (P : Program) (rs : List ResultVar) (res : List (Bool × D)) (pl : List (Nat × Nat × Nat)) (σ : St) : Prop := zar (zbs P σ rs) fun vs => gvA σ (fun _ => True) [] pl vs res
def PM (P : Program) (rs : List ResultVar) (res : List (Bool × D)) (e : Exit) (σ : St) : Prop := match e with
 | .normal => PM0 P rs res [] σ \/ ∃ pl, PM0 P rs res pl σ
 | .ret => PM0 P rs res [] σ \/ ∃ pl, PM0 P rs res pl σ
 | _ => False
theorem zp6 {args : List (Bool × D)} {w : World} {vs : List Value} {fp tp : List Nat} {N : Nat} {g : Gh} {a : Act} {B : Nat -> Prop} (hv : zax w B args vs fp tp) (hR : Rel (fun b => b < w.heap.size /\ b ∉ fp) N (zdu args) g a w)
  (ht : a.tmps = (⟨vs⟩ : Array Value) ++ Array.replicate (N - vs.length) undef) (hB : ∀ b, B b -> (b < w.heap.size /\ b ∉ fp) /\ g.A0 b) : Rel (fun b => b < w.heap.size /\ b ∉ fp) N (zc5 args) g a w := by
 have hm : Mv (zdu args) (zc5 args) g g w w := Mv.of_eq g w rfl rfl
 refine hR.slots_of (σ' := zc5 args) rfl rfl hR.defers hR.size fun i => ?_
 refine (Mv.of_eq (σ := zc5 args) (σ' := zdu args) g w rfl rfl).vr (σ := zc5 args) ?_
 have hi := ziu args 0 i
 rw [Nat.zero_add] at hi
 show VR _ _ _ (zgg 0 args i) _
 rw [hi]
 cases hd : args[i]? with
 | none => trivial
 | some p =>
  obtain ⟨b, d⟩ := p
  cases b with
  | true =>
   have h0 := hm.vr (hR.slots i)
   have hj := zh4 args 0 i
   rw [Nat.zero_add, hd] at hj
   have h0' : VR (zc5 args) g w (zf4 0 args i) (a.tmps.getD i (g.R0.ξ i)) := h0
   rw [hj] at h0'
   exact h0'
  | false =>
   obtain ⟨v, hv1, hv2⟩ := zax.atR hv i d hd
   have hlt : i < vs.length := (List.getElem?_eq_some_iff.1 hv1).1
   have e : a.tmps.getD i (g.R0.ξ i) = v := by
    rw [ht, Array.getD_eq_getD_getElem?, Array.getElem?_append_left (by simpa using hlt)]
    simp [hv1]
   rw [e]
   exact hm.vr (zse (fun b hb => hR.frOld (hB b hb).1 (hB b hb).1.1 (hB b hb).2) hv2)
theorem XC_of {f : FuncId} {fn : Func} {c : Code} {args res : List (Bool × D)} (hc : za0 P f) (hf : P.funcs[f]? = some fn) (hb : fn.body = some c) (hd : zbb fn.ntmps c = true) (hN : args.length <= fn.ntmps) (hs : zby args)
  (h : ex P c [] (PM P fn.results.toList res) (zc5 args)) : XC P f args res := by
 refine ⟨hc, fun w vs fp tp A hv hn => ?_⟩
 refine calls_of_wp hf hb ?_
 have hv' : zax w (fun b => b < w.heap.size /\ A b /\ b ∉ fp) args vs fp tp := zax.keepA (fun b hb => ⟨hb.1.1, hb.2, hb.1.2⟩) hv
 obtain ⟨g, hg, hR⟩ := Rel.start (A0 := fun b => A b \/ w.heap.size <= b \/ b ∈ fp) (R0 := RP.of fun b => b ∈ fp \/ w.heap.size <= b) (N := fn.ntmps) hv' hn hs hN (fun _ h => Or.inl h) (fun b hb => ⟨Or.inr (Or.inr hb), Or.inl hb⟩) (fun b hb => by
  by_cases hlt : b < w.heap.size
  ·have hm : b ∈ fp := Classical.byContradiction fun h => hb ⟨hlt, h⟩
   exact ⟨Or.inr (Or.inr hm), Or.inl hm⟩
  ·exact ⟨Or.inr (Or.inl (by omega)), Or.inr (by omega)⟩)
 have hR0 := zp6 hv' hR rfl (fun b hb => ⟨⟨hb.1, hb.2.2⟩, by rw [(Prod.mk.inj hg).1]; exact Or.inl hb.2.1⟩)
 refine wp_mono (zbc (w0 := w) c (zc5 args) _ hd h g _ w hR0 (fun k hk => hk.1) (Bk.refl _ _) hg) fun e a' w' hq => ?_
 obtain ⟨σ', g', h1, h2, h3, h4, h5⟩ := hq
 have key : (∃ pl, PM0 P fn.results.toList res pl σ') -> ∃ v, (results fn a'.tmps).run P w' = .ok v w' /\ ∃ us fp' tp', Ending.returned v = .returned (zbw us) /\ zax w' (fun k => (k < w'.heap.size /\ k ∉ fp') /\ (A k \/ w.heap.size <= k \/ k ∈ fp)) res us fp' tp' /\ fp'.Nodup /\ (∀ b ∈ fp', b ∈ fp \/ w.heap.size <= b) /\ Bk (fun k => k < w.heap.size /\ k ∉ fp) w w' := by
  rintro ⟨pl, hk⟩
  obtain ⟨vs, hvs, hk⟩ := zap hk
  obtain ⟨us, r1, r2⟩ := zbn h2 fn hvs
  obtain ⟨B, hB⟩ := h2.fam
  obtain ⟨s, k1, ⟨tp', k2⟩, k3, k4⟩ := zgs h2 hB hk r2
  rw [List.append_nil] at k4
  have hsp : s.Pairwise okP := (List.pairwise_reverse.1 (k4 List.Pairwise.nil)).imp fun h => h.symm
  have hin : ∀ b ∈ bks B s, ∃ e, σ'.On e /\ b ∈ g'.φ e := fun b hb => by
   obtain ⟨x, hx, hm⟩ := List.mem_flatMap.1 hb
   exact ⟨x.1, k3 x hx, hB.sub x.1 x.2 b (k3 x hx) hm⟩
  have hA : ∀ b, zco σ' g' w' b -> (b < w'.heap.size /\ b ∉ bks B s) /\ (A b \/ w.heap.size <= b \/ b ∈ fp) := fun b hb => by
   refine ⟨⟨hb.1.2.2.1, fun hm => ?_⟩, ?_⟩
   ·obtain ⟨e, ho, hm⟩ := hin b hm
    exact hb.2 e ho hm
   ·have := hb.1.2.2.2
    rw [(Prod.mk.inj h5).1] at this
    exact this
  refine ⟨_, r1, us, bks B s, tp', rfl, zax.keepA hA k2, ze5 h2 hB k3 hsp, fun b hb => ?_, h4⟩
  obtain ⟨e, ho, hm⟩ := hin b hb
  have := (h2.ebase e ho b hm).2
  rw [(Prod.mk.inj h5).2] at this
  exact this
 have key' : ∀ {Y : Prop}, (PM0 P fn.results.toList res [] σ' \/ ∃ pl, PM0 P fn.results.toList res pl σ') -> ((∃ pl, PM0 P fn.results.toList res pl σ') -> Y) -> Y := fun h k => h.elim (fun h => k ⟨[], h⟩) k
 cases e with
 | normal => exact ⟨h2.defers, key' h1 key⟩
 | ret => exact ⟨h2.defers, key' h1 key⟩
 | exit _ => exact h1.elim
 | goto _ => exact h1.elim
 | panic _ => exact h1.elim
 | outgrown => exact h1.elim
def St.callX (σ : St) (d : Nat) (res : List (Bool × D)) : St := { sl := upd σ.sl d (zom (mD d 0 res)), bx := σ.bx, ev := mE d 0 (zer res) σ.ev }
theorem zye {o : Oper} {σ τ : St} {x : Operand} {asx : Array Operand} {ts : Array TypeId} {f : FuncId} {cvs : List V} {d : Nat} {ds res : List (Bool × D)} {ps : List (Nat × Nat × Nat)} (ho : o.op = .call ⟨.value x, asx, ts⟩) (hd : o.dst = some d)
  (h : XC P f ds res) (hc : zav (σ.get P 0 x) = some (f, cvs)) (hK : Kept σ τ) (hv : gvA σ (fun u => ∀ s ∈ u, τ.ev s.1 = none) [] ps (σ.gets P asx ts ++ cvs) ds) (hf : mF d 0 (zer res) τ.ev) : zae P o σ (τ.callX d res) := by
 intro n0 N g a w hR hn hdN
 obtain ⟨vs, h1, h2⟩ := zdr hR ho hc h.1
 unfold Oper.wp
 rw [h1]
 obtain ⟨B, hB⟩ := hR.fam
 obtain ⟨s, k1, ⟨tp, k2⟩, k3, k4⟩ := zgs hR hB hv h2
 rw [List.append_nil] at k1 k4
 have hsp : s.Pairwise okP := (List.pairwise_reverse.1 (k4 List.Pairwise.nil)).imp fun h => h.symm
 have hnd := ze5 hR hB k3 hsp
 have hfp : ∀ b ∈ bks B s, ∃ e, σ.On e /\ τ.ev e = none /\ b ∈ g.φ e := fun b hb => by
  obtain ⟨x, hx, hm⟩ := List.mem_flatMap.1 hb
  exact ⟨x.1, k3 x hx, k1 x (List.mem_reverse.2 hx), hB.sub x.1 x.2 b (k3 x hx) hm⟩
 have hfn : ∀ b, zco σ g w b -> b ∉ bks B s := fun b hb hm => by obtain ⟨e, h1, _, h3⟩ := hfp b hm; exact hb.2 e h1 h3
 refine (h.2 w vs (bks B s) tp (zco σ g w) (zax.keepA (fun b hb => ⟨⟨hb.1.2.2.1, hfn b hb⟩, hb⟩) k2) hnd).mono ?_
 rintro e w' ⟨us, fp', tp', rfl, o1, o2, o3, hbk⟩
 obtain ⟨tp2, o1'⟩ := o1.flat
 obtain ⟨g', q1, q2, q3⟩ := New.mix (τ := τ) (g := g) (NB := fun b => b ∈ bks B s \/ w.heap.size <= b) (w' := w') d (zer res) _ fp' tp2 0 τ.ev g [] (New.refl _ _ _ _ hR.slc) hf o1' o2 (fun b hb' => ⟨o3 b hb', by simp⟩)
 have hR' := hR.given hn hK hfp hbk q1
 have hBk : Bk n0 w w' := ⟨hbk.os, hbk.tape, hbk.output, hbk.size, fun k hk => hbk.block k ⟨hn k hk, fun hm => by
  obtain ⟨e, h1, _, h3⟩ := hfp k hm
  exact hR.etop e h1 k h3 hk⟩⟩
 have hfree : ∀ k, ((k < w'.heap.size /\ k ∉ fp') /\ (zco σ g w k \/ w.heap.size <= k \/ k ∈ bks B s)) -> zco ⟨τ.sl, τ.bx, mE d 0 (zer res) τ.ev⟩ g' w' k := fun k hk => by
  have hOnσ : ∀ e, τ.On e -> σ.On e := fun e ⟨x, hx, ho⟩ => ⟨x, (hK.ev e x hx).1, ho⟩
  have hno : ∀ e, St.On ⟨τ.sl, τ.bx, mE d 0 (zer res) τ.ev⟩ e -> k ∉ g'.φ e := fun e ho' hm => by
   by_cases hee : τ.ev e = none
   ·obtain ⟨x, hx, _⟩ := ho'
    have := ((q1.new e x hee hx).2.2.1 k hm).2
    rw [List.nil_append] at this
    exact hk.1.2 this
   ·rw [(q1.old e hee).2.2] at hm
    obtain ⟨x, hx, hon⟩ := ho'
    have ho2 : τ.On e := ⟨x, (q1.old e hee).1.symm.trans hx, hon⟩
    rcases hk.2 with h | h | h
    ·exact h.2 e (hOnσ e ho2) hm
    ·obtain ⟨y, hy, hyo⟩ := hOnσ e ho2
     have := (hR.evs e y hy hyo).lt k hm; omega
    ·obtain ⟨e', h1, h2, h3⟩ := hfp k h
     refine hR.apart e e' (hOnσ e ho2) h1 (fun ee => ?_) k hm h3
     subst ee
     obtain ⟨y, hy, _⟩ := ho2
     rw [h2] at hy; cases hy
  have hbne : ∀ b, τ.bx b ≠ none -> σ.bx b ≠ none := fun b hb => by
   obtain ⟨cs, hcs⟩ := Option.ne_none_iff_exists'.1 hb
   rw [(hK.bx b cs hcs).1]; simp
  refine ⟨⟨fun j hj e => ?_, fun e x hx hon hh => hno e ⟨x, hx, hon⟩ (List.mem_of_mem_head? hh), hk.1.1, ?_⟩, hno⟩
  ·have hj' := hbne j hj
   rw [q1.β] at e
   rcases hk.2 with h | h | h
   ·exact h.1.1 j hj' e
   ·have := hR.lt hj'; omega
   ·obtain ⟨e', h1, _, h3⟩ := hfp k h
    exact hR.ebx e' j h1 hj' (e ▸ h3)
  ·rw [q1.A0]
   rcases hk.2 with h | h | h
   ·exact h.1.2.2.2
   ·exact (hR.anew k (hn.new h)).1
   ·obtain ⟨e', h1, _, h3⟩ := hfp k h
    exact (hR.ebase e' h1 k h3).1
 refine ⟨g', ?_, hBk, q1.A0, q1.R0⟩
 have hp := hR'.put (some d) (x := zom (mD d 0 res)) (v := zbw us) (zfv (zxr d 0 o1 (q3 _ _ rfl fun t v h => zak.keep (fun _ _ => rfl) hfree t v h)) (zx1 d res 0)) (fun i hi => by cases hi; exact hdN d hd)
 rw [hd]
 exact hp
section
variable {ks : List Fr} {Q : Exit -> St -> Prop} {σ : St} {ops : Array Oper} {os : List Oper} {ty : TypeId} {ps : String} {af : Array Edge} {d : Nat} {x : Operand} {asx : Array Operand} {ts : Array TypeId} {f : FuncId} {ds res : List (Bool × D)}
theorem callX (la l : List (Nat × V)) (ba bl : List (Nat × List C)) (ea el : List (Nat × Ev)) (pl : List (Nat × Nat × Nat)) (h : XC P f ds res)
  (hw : wkL σ (hd (la ++ l) (ba ++ bl) (ea ++ el)) (la ++ l) /\ wkB σ (hd (la ++ l) (ba ++ bl) (ea ++ el)) (ba ++ bl) /\ wkE σ (ea ++ el))
  (hk : zc4 l la /\ zc4 bl ba /\ zc4 el ea /\ okL (hd l bl el) l /\ okB (hd l bl el) bl /\ okE el)
  (hp : zar (zav ((hd (la ++ l) (ba ++ bl) (ea ++ el)).get P 0 x)) fun p => p.1 = f /\ gvA (hd (la ++ l) (ba ++ bl) (ea ++ el)) (zpv el) [] pl ((hd (la ++ l) (ba ++ bl) (ea ++ el)).gets P asx ts ++ p.2) ds) (hf : mF d 0 (zer res) (hd l bl el).ev)
  (k : exo P ops os ks Q ((hd l bl el).callX d res)) : exo P ops (⟨some d, .call ⟨.value x, asx, ts⟩, ty, ps, af, none⟩ :: os) ks Q σ := by
 obtain ⟨⟨f', cvs⟩, h1, rfl, h2⟩ := zap hp
 obtain ⟨k1, k2, k3, k4, k5, k6⟩ := hk
 refine zct rfl rfl (zae.pre (zac hw) (zye (P := P) (o := ⟨some d, .call ⟨.value x, asx, ts⟩, ty, ps, af, none⟩) rfl rfl h h1 (τ := hd l bl el) ⟨fun i => ?_, fun b cs hb => ⟨ziv k2 b cs hb, zp9 k5 b cs hb⟩, fun e x he => ⟨ziv k3 e x he, zp0 k6 e x he⟩⟩ (zgh (fun u hu => zii hu) h2) hf)) k
 rcases zlk k1 i with h | h
 ·exact Or.inl h
 ·exact Or.inr ⟨h, zp1 k4 i⟩
theorem zr9 (L A : List Nat) (pl : List (Nat × Nat × Nat)) (h : XC P f ds res)
  (hw : wkL σ (hd (σ.lL A ++ σ.lL L) (σ.lB (dif (σ.KB L) (σ.KB A)) ++ σ.lB (σ.KB L)) (σ.lE (dif (σ.KE L) (σ.KE A)) ++ σ.lE (σ.KE L))) (σ.lL A ++ σ.lL L) /\ wkB σ (hd (σ.lL A ++ σ.lL L) (σ.lB (dif (σ.KB L) (σ.KB A)) ++ σ.lB (σ.KB L)) (σ.lE (dif (σ.KE L) (σ.KE A)) ++ σ.lE (σ.KE L))) (σ.lB (dif (σ.KB L) (σ.KB A)) ++ σ.lB (σ.KB L)) /\ wkE σ (σ.lE (dif (σ.KE L) (σ.KE A)) ++ σ.lE (σ.KE L)))
  (hk : zc4 (σ.lL L) (σ.lL A) /\ zc4 (σ.lB (σ.KB L)) (σ.lB (dif (σ.KB L) (σ.KB A))) /\ zc4 (σ.lE (σ.KE L)) (σ.lE (dif (σ.KE L) (σ.KE A))) /\ okL (σ.hL L) (σ.lL L) /\ okB (σ.hL L) (σ.lB (σ.KB L)) /\ okE (σ.lE (σ.KE L)))
  (hp : zar (zav ((hd (σ.lL A ++ σ.lL L) (σ.lB (dif (σ.KB L) (σ.KB A)) ++ σ.lB (σ.KB L)) (σ.lE (dif (σ.KE L) (σ.KE A)) ++ σ.lE (σ.KE L))).get P 0 x)) fun p => p.1 = f /\ gvA (hd (σ.lL A ++ σ.lL L) (σ.lB (dif (σ.KB L) (σ.KB A)) ++ σ.lB (σ.KB L)) (σ.lE (dif (σ.KE L) (σ.KE A)) ++ σ.lE (σ.KE L))) (zpv (σ.lE (σ.KE L))) [] pl ((hd (σ.lL A ++ σ.lL L) (σ.lB (dif (σ.KB L) (σ.KB A)) ++ σ.lB (σ.KB L)) (σ.lE (dif (σ.KE L) (σ.KE A)) ++ σ.lE (σ.KE L))).gets P asx ts ++ p.2) ds)
  (hf : mF d 0 (zer res) (σ.hL L).ev) (k : exo P ops os ks Q ((σ.hL L).callX d res)) : exo P ops (⟨some d, .call ⟨.value x, asx, ts⟩, ty, ps, af, none⟩ :: os) ks Q σ :=
 callX (σ.lL A) (σ.lL L) _ _ _ _ pl h hw hk hp hf k
end
attribute [go_sem] zer mC1 mC mE mF mD St.callX PM PM0 zt9 qcg
end Go.Proofs.YtemnhgmgeijkcaaGreat
namespace Go.Proofs.YtemnhgmgeijkcaaGreat
set_option linter.unusedSimpArgs false
set_option linter.unusedVariables false
set_option linter.unusedSectionVars false
set_option maxRecDepth 4000
open Go.RowKit
variable {P : Program}
def C.fz (e : Nat) (x : Ev) : C -> C
 | .ow e' g => if e' = e then (if g = x.gen then .rn (.sl x.sz x.rows) else .any) else .ow e' g
 | .eo e' g sz i o => if e' = e then .any else .eo e' g sz i o
 | c => c
def fzS (f : Nat -> V) (e : Nat) (x : Ev) : Nat -> V := fun i => (f i).map (C.fz e x)
def fzB (f : Nat -> Option (List C)) (e : Nat) (x : Ev) : Nat -> Option (List C) := fun b => (f b).map fun cs => cs.map (C.fz e x)
def fzE (f : Nat -> Option Ev) (e : Nat) : Nat -> Option Ev := fun k => if k = e then none else f k
theorem fzS_at (f : Nat -> V) (e : Nat) (x : Ev) (i : Nat) : fzS f e x i = (f i).map (C.fz e x) := rfl
theorem zsu (f : Nat -> Option (List C)) (e : Nat) (x : Ev) (b : Nat) : fzB f e x b = (f b).map fun cs => cs.map (C.fz e x) := rfl
theorem fzE_at (f : Nat -> Option Ev) (e k : Nat) : fzE f e k = if k = e then none else f k := rfl
def St.fz (σ : St) (e : Nat) (x : Ev) : St := ⟨fzS σ.sl e x, fzB σ.bx e x, fzE σ.ev e⟩
theorem fz_wk {σ : St} {e : Nat} {x : Ev} (hx : σ.ev e = some x) (hd : x.deep = true) (ho : x.on = true) : Wk σ (σ.fz e x) := by
 intro n0 N g a w h
 have hev : ∀ e', e' ≠ e -> (σ.fz e x).ev e' = σ.ev e' := fun e' he => by show (if e' = e then none else σ.ev e') = _; rw [if_neg he]
 have hee : (σ.fz e x).ev e = none := by show (if e = e then none else σ.ev e) = _; rw [if_pos rfl]
 have hsome : ∀ e' z, (σ.fz e x).ev e' = some z -> e' ≠ e /\ σ.ev e' = some z := fun e' z hz => by
  by_cases he : e' = e
  ·subst he; rw [hee] at hz; cases hz
  ·exact ⟨he, by rw [<- hev e' he]; exact hz⟩
 have hon : ∀ e', (σ.fz e x).On e' -> e' ≠ e /\ σ.On e' := fun e' ⟨z, hz, h1⟩ => ⟨(hsome e' z hz).1, z, (hsome e' z hz).2, h1⟩
 have hbx : ∀ b, (σ.fz e x).bx b ≠ none ↔ σ.bx b ≠ none := fun b => by unfold St.fz; simp [zsu]
 have hOn : σ.On e := ⟨x, hx, ho⟩
 have hf : ∀ b, Fix σ g w b -> Fix (σ.fz e x) g w b := fun b hf => ⟨fun k hk => hf.1 k ((hbx k).1 hk), fun e' z hz h1 => hf.2.1 e' z (hsome e' z hz).2 h1, hf.2.2⟩
 have hfr : ∀ b, zco σ g w b -> zco (σ.fz e x) g w b := fun b hb => ⟨hf b hb.1, fun e' h' => hb.2 e' (hon e' h').2⟩
 have hgone : ∀ b ∈ g.φ e, b < w.heap.size -> zco (σ.fz e x) g w b := fun b hb hl => by
  have hne : ∀ e', (σ.fz e x).On e' -> b ∉ g.φ e' := fun e' he' hm => h.apart e e' hOn (hon e' he').2 (Ne.symm (hon e' he').1) b hb hm
  exact ⟨⟨fun j hj hjb => h.ebx e j hOn ((hbx j).1 hj) (by rw [hjb]; exact hb), fun e' z hz h1 hh => hne e' ⟨z, hz, h1⟩ (List.mem_of_mem_head? hh), hl, (h.ebase e hOn b hb).1⟩, hne⟩
 have hhas : ∀ e' n, e' ≠ e -> σ.has e' n -> (σ.fz e x).has e' n := fun e' n he ⟨z, hz, h1⟩ => ⟨z, by rw [hev e' he]; exact hz, h1⟩
 have cr : ∀ c v, CR σ g w c v -> CR (σ.fz e x) g w (c.fz e x) v := fun c v hc => by
  cases c with
  | t y => exact zak.keep (fun _ _ => rfl) hf y v hc
  | nl s => exact hc
  | ow e' n =>
   show CR _ _ _ (if e' = e then (if n = x.gen then .rn (.sl x.sz x.rows) else .any) else .ow e' n) v
   by_cases he : e' = e
   ·subst he
    rw [if_pos rfl]
    by_cases hn : n = x.gen
    ·rw [if_pos hn]
     subst hn
     obtain ⟨ao, cap, e1, e2, e3, e4⟩ := h.evs _ x hx ho
     rw [<- hc.1] at e1
     show zak _ _ _ _
     unfold zak
     refine ⟨ao, cap, e1, e2, e3, ?_⟩
     rcases e4 with ⟨_, _, e4, _⟩ | ⟨b, cells, ty, fps, k1, k2, k3, k4, k5⟩
     ·exact Or.inl e4
     ·rw [if_pos hd] at k5
      have hl : ∀ b' ∈ fps, b' < w.heap.size := zag.lt cells 0 x.sz x.rows fps k5
      exact Or.inr ⟨b, 0, k1, hgone b (by rw [k2]; simp) (Array.getElem?_eq_some_iff.1 k3).1, zag.rep b cells ty k3 0 x.sz x.rows fps k5 fun b' hb' => hgone b' (by rw [k2]; simp [hb']) (hl b' hb')⟩
    ·rw [if_neg hn]; trivial
   ·rw [if_neg he]; exact ⟨hc.1, hhas e' n he hc.2⟩
  | bx b o => exact ⟨hc.1, (hbx b).2 hc.2⟩
  | el cs o => obtain ⟨b, q, h1, h2, h3⟩ := hc; exact ⟨b, q, h1, hf b h2, za5.keep (fun _ _ => rfl) hf b rfl q cs h3⟩
  | eo e' s sz i o =>
   show CR _ _ _ (if e' = e then .any else .eo e' s sz i o) v
   by_cases he : e' = e
   ·rw [if_pos he]; trivial
   ·rw [if_neg he]; obtain ⟨b, n, c, h1, h2, h3, h4⟩ := hc; exact ⟨b, n, c, h1, h2, h3, hhas e' s he h4⟩
  | fn f caps => exact ⟨hc.1, fun b hb => (hbx b).2 (hc.2 b hb)⟩
  | cv u => exact hc
  | any => trivial
  | rn y => exact zak.keep (fun _ _ => rfl) hfr y v hc
  | er cs o => obtain ⟨b, q, h1, h2, h3⟩ := hc; exact ⟨b, q, h1, hfr b h2, za5.keep (fun _ _ => rfl) hfr b rfl q cs h3⟩
 refine ⟨g, ⟨h.defers, h.size, h.anew, fun i => VR.map cr (h.slots i), fun b cs hb => ?_, fun b hb => h.base b ((hbx b).1 hb), fun b b' h1 h2 => h.inj b b' ((hbx b).1 h1) ((hbx b').1 h2), fun e' z hz h1 => ?_, fun e' z hz h1 => ?_, h.slc, fun e' h1 => h.ebase e' (hon e' h1).2, fun e' h1 => h.etop e' (hon e' h1).2, fun e' h1 => h.nodup e' (hon e' h1).2, fun e1 e2 h1 h2 => h.apart e1 e2 (hon e1 h1).2 (hon e2 h2).2, fun e' k h1 h2 => h.ebx e' k (hon e' h1).2 ((hbx k).1 h2)⟩, rfl, rfl⟩
 ·cases hc : σ.bx b with
  | none => unfold St.fz at hb; simp only [zsu, hc, Option.map_none] at hb; cases hb
  | some cs0 =>
   unfold St.fz at hb
   simp only [zsu, hc, Option.map_some, Option.some.injEq] at hb
   subst hb
   obtain ⟨vs, ty, k1, k2⟩ := h.boxes b cs0 hc
   exact ⟨vs, ty, k1, CRs.map cr k2⟩
 ·obtain ⟨ao, cap, e1, e2, e3, e4⟩ := h.evs e' z (hsome e' z hz).2 h1
  refine ⟨ao, cap, e1, e2, e3, ?_⟩
  rcases e4 with e4 | ⟨b, cells, ty, fps, k1, k2, k3, k4, k5⟩
  ·exact Or.inl e4
  ·refine Or.inr ⟨b, cells, ty, fps, k1, k2, k3, k4, ?_⟩
   split at k5
   ·rw [if_pos ‹_›]; exact k5
   ·rw [if_neg ‹_›]; exact ⟨k5.1, zal.keep (fun _ _ => rfl) hf b rfl 0 z.sz z.rows k5.2⟩
 ·exact ⟨zak.keep (fun _ _ => rfl) hf _ _ (h.offs e' z (hsome e' z hz).2 h1).1, (h.offs e' z (hsome e' z hz).2 h1).2⟩
theorem zcv.pre {o : Oper} {σ σ' : St} {K : St -> Prop} (h : Wk σ σ') (k : zcv P o σ' K) : zcv P o σ K := fun n0 N g a w hR hn hd => by
 obtain ⟨g1, h1, h2, h3⟩ := h n0 N g a w hR
 have := k n0 N g1 a w h1 hn hd
 unfold Oper.wp at this ⊢
 revert this
 cases (execOp a.eval o).run P w <;> intro this <;> try exact this
 all_goals (revert this; rw [h2, h3]; exact id)
theorem zds.pre {id : Nat} {ops : Array Oper} {σ σ' : St} {K : St -> Prop} (h : Wk σ σ') (k : zds P id ops σ' K) : zds P id ops σ K := fun n0 N g a w hR hn hd => by
 obtain ⟨g1, h1, h2, h3⟩ := h n0 N g a w hR
 have := k n0 N g1 a w h1 hn hd
 rw [h2, h3] at this
 exact this
section
variable {ks : List Fr} {Q : Exit -> St -> Prop} {σ : St} {ops : Array Oper} {os : List Oper} {o : Oper}
theorem qfq {σ' : St} (h : Wk σ σ') (hg : o.guard = none) (hs : zyc o.op = true) (k : exo P ops (o :: os) ks Q σ') : exo P ops (o :: os) ks Q σ := by
 unfold exo zbg exG at k ⊢
 rw [hg] at k ⊢
 simp only at k ⊢
 unfold zb5 zon at k ⊢
 rw [if_pos (by rw [hs]; rfl)] at k ⊢
 exact k.pre h
theorem frzO (e : Nat) (hg : o.guard = none) (hs : zyc o.op = true) (k : zar (σ.ev e) fun x => x.deep = true /\ x.on = true /\ exo P ops (o :: os) ks Q (σ.fz e x)) : exo P ops (o :: os) ks Q σ := by
 obtain ⟨x, hx, h1, h2, h3⟩ := zap k
 exact qfq (fz_wk hx h1 h2) hg hs h3
theorem frzD (e : Nat) {i : Nat} (k : zar (σ.ev e) fun x => x.deep = true /\ x.on = true /\ ex P (.region i ops true) ks Q (σ.fz e x)) : ex P (.region i ops true) ks Q σ := by
 obtain ⟨x, hx, h1, h2, h3⟩ := zap k
 exact zds.pre (fz_wk hx h1 h2) h3
end
attribute [go_sem] C.fz St.fz V.map fzS_at zsu fzE_at
end Go.Proofs.YtemnhgmgeijkcaaGreat
namespace Go.Proofs.YtemnhgmgeijkcaaGreat
theorem ag_3 : znh Tryz.prog 3 = some false := by kernel_rfl
theorem sz_3 : zbj Tryz.prog 3 = some 1 := by kernel_rfl
theorem in_3 : zz5 Tryz.prog 3 = some .i64 := by kernel_rfl
theorem ze_3 : zda Tryz.prog 3 = some [.t (.int .i64 0)] := by kernel_rfl
theorem bo_4 : zxu Tryz.prog 4 = true := by kernel_rfl
theorem sz_5 : zbj Tryz.prog 5 = some 1 := by kernel_rfl
theorem in_5 : zz5 Tryz.prog 5 = some .u8 := by kernel_rfl
theorem ze_5 : zda Tryz.prog 5 = some [.t (.int .u8 0)] := by kernel_rfl
theorem ag_9 : znh Tryz.prog 9 = some false := by kernel_rfl
theorem sz_9 : zbj Tryz.prog 9 = some 1 := by kernel_rfl
theorem in_9 : zz5 Tryz.prog 9 = none := by kernel_rfl
theorem st_9 : zz0 Tryz.prog 9 = true := by kernel_rfl
theorem ze_9 : zda Tryz.prog 9 = some [.t (.str [])] := by kernel_rfl
theorem ag_22 : znh Tryz.prog 22 = some false := by kernel_rfl
theorem sz_22 : zbj Tryz.prog 22 = some 1 := by kernel_rfl
theorem el_22 : elT Tryz.prog 22 = some 24 := by kernel_rfl
theorem ag_24 : znh Tryz.prog 24 = some true := by kernel_rfl
theorem sz_24 : zbj Tryz.prog 24 = some 2 := by kernel_rfl
theorem qfw : zh5 Tryz.prog 24 0 = some (0, 9) := by kernel_rfl
theorem qfd : zh5 Tryz.prog 24 1 = some (1, 22) := by kernel_rfl
theorem ag_25 : znh Tryz.prog 25 = some false := by kernel_rfl
theorem sz_25 : zbj Tryz.prog 25 = some 1 := by kernel_rfl
theorem el_25 : elT Tryz.prog 25 = some 27 := by kernel_rfl
theorem ag_27 : znh Tryz.prog 27 = some true := by kernel_rfl
theorem sz_27 : zbj Tryz.prog 27 = some 5 := by kernel_rfl
theorem qfb : zh5 Tryz.prog 27 0 = some (0, 3) := by kernel_rfl
theorem qhh : zh5 Tryz.prog 27 1 = some (1, 24) := by kernel_rfl
theorem qgj : zh5 Tryz.prog 27 2 = some (3, 9) := by kernel_rfl
theorem qg6 : zh5 Tryz.prog 27 3 = some (4, 25) := by kernel_rfl
theorem el_28 : elT Tryz.prog 28 = some 22 := by kernel_rfl
theorem nl_31 : nlT Tryz.prog 31 = 2 := by kernel_rfl
theorem ag_31 : znh Tryz.prog 31 = some false := by kernel_rfl
theorem sz_31 : zbj Tryz.prog 31 = some 1 := by kernel_rfl
theorem el_31 : elT Tryz.prog 31 = some 33 := by kernel_rfl
theorem zsl : zde Tryz.prog 33 = some 40 := by kernel_rfl
theorem ze_31 : zda Tryz.prog 31 = some [.nl 2] := by kernel_rfl
theorem ag_33 : znh Tryz.prog 33 = some true := by kernel_rfl
theorem sz_33 : zbj Tryz.prog 33 = some 2 := by kernel_rfl
theorem ze_33 : zda Tryz.prog 33 = some [.t (.str []), .nl 2] := by kernel_rfl
theorem pl_33 : qee Tryz.prog 33 = some [(0, 1), (1, 1)] := by kernel_rfl
theorem qgt : zh5 Tryz.prog 33 0 = some (0, 9) := by kernel_rfl
theorem qe9 : zh5 Tryz.prog 33 1 = some (1, 31) := by kernel_rfl
theorem nl_34 : nlT Tryz.prog 34 = 5 := by kernel_rfl
theorem ag_34 : znh Tryz.prog 34 = some false := by kernel_rfl
theorem sz_34 : zbj Tryz.prog 34 = some 1 := by kernel_rfl
theorem el_34 : elT Tryz.prog 34 = some 36 := by kernel_rfl
theorem zq6 : zde Tryz.prog 36 = some 88 := by kernel_rfl
theorem ag_36 : znh Tryz.prog 36 = some true := by kernel_rfl
theorem sz_36 : zbj Tryz.prog 36 = some 5 := by kernel_rfl
theorem ze_36 : zda Tryz.prog 36 = some [.t (.int .i64 0), .t (.str []), .nl 2, .t (.str []), .nl 5] := by kernel_rfl
theorem pl_36 : qee Tryz.prog 36 = some [(0, 1), (1, 2), (3, 1), (4, 1)] := by kernel_rfl
theorem qff : zh5 Tryz.prog 36 0 = some (0, 3) := by kernel_rfl
theorem qf1 : zh5 Tryz.prog 36 1 = some (1, 33) := by kernel_rfl
theorem qgp : zh5 Tryz.prog 36 2 = some (3, 9) := by kernel_rfl
theorem qgd : zh5 Tryz.prog 36 3 = some (4, 34) := by kernel_rfl
theorem nl_40 : nlT Tryz.prog 40 = 1 := by kernel_rfl
theorem el_40 : elT Tryz.prog 40 = some 31 := by kernel_rfl
theorem qc7 : zde Tryz.prog 31 = some 24 := by kernel_rfl
theorem ag_49 : znh Tryz.prog 49 = some false := by kernel_rfl
theorem el_49 : elT Tryz.prog 49 = some 3 := by kernel_rfl
theorem nl_100 : nlT Tryz.prog 100 = 1 := by kernel_rfl
theorem qeb : elT Tryz.prog 100 = some 9 := by kernel_rfl
theorem zso : zde Tryz.prog 9 = some 16 := by kernel_rfl
theorem ag_105 : znh Tryz.prog 105 = some false := by kernel_rfl
theorem ag_177 : znh Tryz.prog 177 = some false := by kernel_rfl
theorem sz_177 : zbj Tryz.prog 177 = some 1 := by kernel_rfl
theorem qdv : elT Tryz.prog 177 = some 216 := by kernel_rfl
theorem zkb : zde Tryz.prog 216 = some 56 := by kernel_rfl
theorem ag_179 : znh Tryz.prog 179 = some true := by kernel_rfl
theorem sz_179 : zbj Tryz.prog 179 = some 1 := by kernel_rfl
theorem ze_179 : zda Tryz.prog 179 = some [.nl 3] := by kernel_rfl
theorem pl_179 : qee Tryz.prog 179 = some [(0, 1)] := by kernel_rfl
theorem qbu : zh5 Tryz.prog 179 0 = some (0, 177) := by kernel_rfl
theorem el_189 : elT Tryz.prog 189 = some 5 := by kernel_rfl
theorem us_189 : u8S Tryz.prog 189 = true := by kernel_rfl
theorem in_189 : zz5 Tryz.prog 189 = none := by kernel_rfl
theorem qe0 : zbj Tryz.prog 216 = some 3 := by kernel_rfl
theorem qeg : zda Tryz.prog 216 = some [.t (.str []), .t (.str []), .nl 2] := by kernel_rfl
theorem pl_216 : qee Tryz.prog 216 = some [(0, 1), (1, 2)] := by kernel_rfl
theorem qci : zh5 Tryz.prog 216 0 = some (0, 9) := by kernel_rfl
theorem qa1 : zh5 Tryz.prog 216 1 = some (1, 33) := by kernel_rfl
theorem ap_31 : apT Tryz.prog 31 2 := zry el_31 sz_33 zsl (by decide) ze_33 rfl
theorem ap_34 : apT Tryz.prog 34 5 := zry el_34 sz_36 zq6 (by decide) ze_36 rfl
theorem ap_100 : apT Tryz.prog 100 1 := zry qeb sz_9 zso (by decide) ze_9 rfl
theorem ap_177 : apT Tryz.prog 177 3 := zry qdv qe0 zkb (by decide) qeg rfl
attribute [go_sem] ag_3 sz_3 in_3 ze_3 bo_4 sz_5 in_5 ze_5 ag_9 sz_9 in_9 st_9 ze_9 ag_22 sz_22 el_22 ag_24 sz_24 qfw qfd ag_25 sz_25 el_25 ag_27 sz_27 qfb qhh qgj qg6 el_28 nl_31 ag_31 sz_31 el_31 zsl ze_31 ag_33 sz_33 ze_33 pl_33 qgt qe9 nl_34 ag_34 sz_34 el_34 zq6 ag_36 sz_36 ze_36 pl_36 qff qf1 qgp qgd nl_40 el_40 qc7 ag_49 el_49 nl_100 qeb zso ag_105 ag_177 sz_177 qdv zkb ag_179 sz_179 ze_179 pl_179 qbu el_189 us_189 in_189 qe0 qeg pl_216 qci qa1 ap_31 ap_34 ap_100 ap_177
attribute [go_sem] Nat.reduceEqDiff reduceIte reduceCtorEq Nat.reduceAdd Nat.reduceMul Int.reduceLE Int.reduceNeg Int.reduceToNat Nat.reduceLeDiff Nat.reduceSub Nat.reduceLT Nat.le_refl Int.cast_ofNat_Int Int.reduceLT Int.reduceGT Int.reduceGE Int.reduceEq Int.reduceBEq Nat.reduceBEq Int.reduceBNe Int.reduceAdd Int.reduceSub gt_iff_lt ge_iff_le
end Go.Proofs.YtemnhgmgeijkcaaGreat
namespace Go.Proofs.YtemnhgmgeijkcaaGreat
set_option linter.unusedSimpArgs false
set_option linter.unusedVariables false
set_option linter.unusedSectionVars false
set_option maxRecDepth 4000
open Go.RowKit
abbrev Str := List UInt8
inductive Tm where
 | mk (name : Str) (args : List Tm)
def Tm.name : Tm -> Str | .mk n _ => n
def Tm.args : Tm -> List Tm | .mk _ xs => xs
theorem Tm.eta : ∀ a : Tm, Tm.mk a.name a.args = a | .mk _ _ => rfl
mutual
theorem zbd {P : Tm -> Prop} (h : ∀ n xs, (∀ x ∈ xs, P x) -> P (.mk n xs)) : ∀ a, P a
 | .mk n xs => h n xs (zv2 h xs)
theorem zv2 {P : Tm -> Prop} (h : ∀ n xs, (∀ x ∈ xs, P x) -> P (.mk n xs)) : ∀ xs : List Tm, ∀ x ∈ xs, P x
 | [], x, hx => absurd hx (by simp)
 | a :: xs, x, hx => (List.mem_cons.1 hx).elim (fun e => e ▸ zbd h a) (zv2 h xs x)
end
mutual
def Tm.fold {α : Type} (f : Str -> List Tm -> List α -> α) : Tm -> α
 | .mk n xs => f n xs (Tm.folds f xs)
def Tm.folds {α : Type} (f : Str -> List Tm -> List α -> α) : List Tm -> List α
 | [] => []
 | a :: xs => Tm.fold f a :: Tm.folds f xs
end
theorem Tm.folds_map {α : Type} (f : Str -> List Tm -> List α -> α) (xs : List Tm) : Tm.folds f xs = xs.map (Tm.fold f) := by
 induction xs with
 | nil => rfl
 | cons a xs ih => rw [Tm.folds, ih]; rfl
theorem Tm.fold_eq {α : Type} (f : Str -> List Tm -> List α -> α) (a : Tm) : Tm.fold f a = f a.name a.args (a.args.map (Tm.fold f)) := by
 cases a; rw [Tm.fold, Tm.folds_map]; rfl
inductive Fm where
 | mk (op : Int) (atom : Tm) (var : Str) (parts : List Fm)
def Fm.op : Fm -> Int | .mk o _ _ _ => o
def Fm.atom : Fm -> Tm | .mk _ a _ _ => a
def Fm.var : Fm -> Str | .mk _ _ v _ => v
def Fm.parts : Fm -> List Fm | .mk _ _ _ ps => ps
theorem Fm.eta : ∀ a : Fm, Fm.mk a.op a.atom a.var a.parts = a | .mk _ _ _ _ => rfl
mutual
theorem zba {P : Fm -> Prop} (h : ∀ o a v ps, (∀ x ∈ ps, P x) -> P (.mk o a v ps)) : ∀ f, P f
 | .mk o a v ps => h o a v ps (zyw h ps)
theorem zyw {P : Fm -> Prop} (h : ∀ o a v ps, (∀ x ∈ ps, P x) -> P (.mk o a v ps)) : ∀ xs : List Fm, ∀ x ∈ xs, P x
 | [], x, hx => absurd hx (by simp)
 | a :: xs, x, hx => (List.mem_cons.1 hx).elim (fun e => e ▸ zba h a) (zyw h xs x)
end
mutual
def Fm.fold {α : Type} (f : Int -> Tm -> Str -> List Fm -> List α -> α) : Fm -> α
 | .mk o a v ps => f o a v ps (Fm.folds f ps)
def Fm.folds {α : Type} (f : Int -> Tm -> Str -> List Fm -> List α -> α) : List Fm -> List α
 | [] => []
 | a :: xs => Fm.fold f a :: Fm.folds f xs
end
theorem Fm.folds_map {α : Type} (f : Int -> Tm -> Str -> List Fm -> List α -> α) (xs : List Fm) : Fm.folds f xs = xs.map (Fm.fold f) := by
 induction xs with
 | nil => rfl
 | cons a xs ih => rw [Fm.folds, ih]; rfl
theorem Fm.fold_eq {α : Type} (f : Int -> Tm -> Str -> List Fm -> List α -> α) (a : Fm) : Fm.fold f a = f a.op a.atom a.var a.parts (a.parts.map (Fm.fold f)) := by
 cases a; rw [Fm.fold, Fm.folds_map]; rfl
def tmC : Tm -> List T := Tm.fold fun n _ rs => [.str n, .sl 2 rs]
theorem zaa (a : Tm) : tmC a = [.str a.name, .sl 2 (a.args.map tmC)] := Tm.fold_eq _ a
def fmC : Fm -> List T := Fm.fold fun o a v _ rs => [.int .i64 o, .str a.name, .sl 2 (a.args.map tmC), .str v, .sl 5 rs]
theorem zab (a : Fm) : fmC a = [.int .i64 a.op, .str a.atom.name, .sl 2 (a.atom.args.map tmC), .str a.var, .sl 5 (a.parts.map fmC)] := Fm.fold_eq _ a
theorem zeq (o : Int) (a : Tm) (v : Str) (ps : List Fm) : fmC (.mk o a v ps) = [.int .i64 o, .str a.name, .sl 2 (a.args.map tmC), .str v, .sl 5 (ps.map fmC)] := zab _
abbrev tmD (a : Tm) : D := .agg (tmC a)
abbrev fmD (a : Fm) : D := .agg (fmC a)
abbrev tmS (xs : List Tm) : T := .sl 2 (xs.map tmC)
abbrev fmS (xs : List Fm) : T := .sl 5 (xs.map fmC)
abbrev iD (n : Int) : D := .one (.int .i64 n)
abbrev bD (b : Bool) : D := .one (.bool b)
abbrev sD (s : Str) : D := .one (.str s)
theorem zai {α : Type} (f : α -> List T) (xs : List α) (k : Nat) (h : k < xs.length) : (xs.map f).getD k [] = f (xs[k]'h) := by simp [List.getD, h]
def Tm.wt : Tm -> Nat := Tm.fold fun n xs rs => n.length + xs.length + rs.sum
theorem Tm.wt_eq (a : Tm) : a.wt = a.name.length + a.args.length + (a.args.map Tm.wt).sum := Tm.fold_eq _ a
def Fm.wt : Fm -> Nat := Fm.fold fun _ a v ps rs => a.wt + v.length + ps.length + rs.sum
theorem Fm.wt_eq (a : Fm) : a.wt = a.atom.wt + a.var.length + a.parts.length + (a.parts.map Fm.wt).sum := Fm.fold_eq _ a
def zfd (xs : List Tm) : Nat := xs.length + (xs.map Tm.wt).sum
def zp4 (xs : List Fm) : Nat := xs.length + (xs.map Fm.wt).sum
def szR (w : Nat) (left : Int) : Int := if (w : Int) <= left then left - w else -1
def zmb {α : Type} (f : α -> Nat) (xs : List α) (k : Nat) : Nat := ((xs.take k).map f).sum
theorem zd7 {α : Type} (f : α -> Nat) (xs : List α) : zmb f xs 0 = 0 := by simp [zmb]
theorem zid {α : Type} (f : α -> Nat) (xs : List α) (k : Nat) (h : k < xs.length) : zmb f xs (k + 1) = zmb f xs k + f xs[k] := by
 unfold zmb
 rw [List.take_succ_eq_append_getElem h, List.map_append, List.sum_append]; simp
theorem zo6 {α : Type} (f : α -> Nat) (xs : List α) (k : Nat) : zmb f xs k <= (xs.map f).sum := by
 unfold zmb
 conv => rhs; rw [<- List.take_append_drop k xs, List.map_append, List.sum_append]
 omega
theorem zku {α : Type} (f : α -> Nat) (xs : List α) (k : Nat) (h : xs.length <= k) : zmb f xs k = (xs.map f).sum := by
 unfold zmb
 rw [List.take_of_length_le h]
theorem zbk {α : Type} (f : α -> Nat) (xs : List α) : ∀ x ∈ xs, f x <= (xs.map f).sum := by
 induction xs with
 | nil => simp
 | cons a xs ih =>
  intro x hx
  rcases List.mem_cons.1 hx with rfl | hx
  ·simp
  ·have := ih x hx; simp; omega
noncomputable def same {α : Type} (a b : α) : Bool := @decide (a = b) (Classical.propDecidable _)
theorem zea {α : Type} {a b : α} : same a b = true ↔ a = b := by simp [same]
theorem zej {α : Type} {a b : α} : same a b = false ↔ a ≠ b := by simp [same]
theorem zbe {α : Type} (a : α) : same a a = true := by simp [same]
theorem zdz {α : Type} (a b : α) (xs ys : List α) : same (a :: xs) (b :: ys) = (same a b && same xs ys) := by
 rw [Bool.eq_iff_iff, Bool.and_eq_true, zea, zea, zea, List.cons.injEq]
theorem zk7 {α : Type} : same ([] : List α) [] = true := zbe _
theorem zao {k : Nat} (h : k < 9223372036854775807) : IntKind.i64.wrap ((k : Int) + 1) = ((k + 1 : Nat) : Int) := zyz h
theorem zg0 {w : Nat} {l : Int} (h0 : 0 <= l) (h : szR w l < 0) : l < w := by unfold szR at h; split at h <;> omega
theorem zeu {w : Nat} {l : Int} (h : ¬ szR w l < 0) : (w : Int) <= l /\ szR w l = l - w := by
 by_cases hh : (w : Int) <= l
 ·exact ⟨hh, if_pos hh⟩
 ·exact absurd (by rw [szR, if_neg hh]; omega) h
theorem zdf {w : Nat} {l : Int} (h : l < w) : szR w l = -1 := if_neg (by omega)
theorem zmy {w : Nat} {l : Int} (h : (w : Int) <= l) : szR w l = l - w := if_pos h
theorem zuu {k : IntKind} {a b : Int} (h : a = b) : T.int k a = T.int k b := h ▸ rfl
theorem zf2 (A : List (List T)) (n k : Nat) (z ts : List T) (hA : A.length = k) (hk : k < n) (hz : ts.length = z.length) : zd2 (A ++ List.replicate (n - k) z) k 0 ts = A ++ [ts] ++ List.replicate (n - (k + 1)) z := by
 subst hA
 have e : List.replicate (n - A.length) z = z :: List.replicate (n - (A.length + 1)) z := by
  rw [show n - A.length = (n - (A.length + 1)) + 1 by omega]; rfl
 unfold zd2
 rw [e]
 simp [zw2 _ _ hz]
end Go.Proofs.YtemnhgmgeijkcaaGreat
namespace Go.Proofs.YtemnhgmgeijkcaaGreat
set_option linter.unusedSimpArgs false
set_option linter.unusedVariables false
set_option linter.unusedSectionVars false
set_option maxRecDepth 4000
open Go.RowKit
theorem zc6.cons {P : Program} {t : TypeId} {ts : List TypeId} {xs : List PD} (h : zc6 P (t :: ts) xs) : ∃ x xs', xs = x :: xs' /\ zbm P t x /\ zc6 P ts xs' := by
 cases xs with
 | nil => rw [zc6] at h; cases h
 | cons x xs =>
  rw [zc6] at h
  obtain ⟨t', ts', e, h1, h2⟩ := h
  cases e
  exact ⟨x, xs, rfl, h1, h2⟩
theorem zc6.nil {P : Program} {xs : List PD} (h : zc6 P [] xs) : xs = [] := by
 cases xs with
 | nil => rfl
 | cons x xs =>
  rw [zc6] at h
  obtain ⟨t', ts', e, _⟩ := h
  cases e
theorem zmu {Q : PD -> Prop} (h : ∀ d, (∀ d', SizeOf.sizeOf d' < SizeOf.sizeOf d -> Q d') -> Q d) (d : PD) : Q d := by
 have : ∀ n (d : PD), SizeOf.sizeOf d < n -> Q d := by
  intro n
  induction n with
  | zero => intro d hd; omega
  | succ n ih => intro d hd; exact h d fun d' hd' => ih d' (by omega)
 exact this _ d (Nat.lt_succ_self _)
theorem zdy {α : Type} (c : α -> List T) : ∀ (xs : List PD), (∀ x ∈ xs, ∃ a, x.cells = c a) -> ∃ l : List α, PD.rows xs = l.map c
 | [], _ => ⟨[], rfl⟩
 | x :: xs, h => by
  obtain ⟨a, ha⟩ := h x (by simp)
  obtain ⟨l, hl⟩ := zdy c xs fun y hy => h y (by simp [hy])
  exact ⟨a :: l, by rw [PD.rows, ha, hl]; rfl⟩
theorem zyu : ∀ d, zbm Tryz.prog 24 d -> ∃ a : Tm, d.cells = tmC a :=
 zmu fun d ih h => by
  obtain ⟨fs, rfl, hf⟩ := h.st Tryz.underlying24
  have hf : zc6 Tryz.prog [9, 22] fs := hf
  obtain ⟨x1, r1, rfl, h1, hf⟩ := hf.cons
  obtain ⟨x2, r2, rfl, h2, hf⟩ := hf.cons
  obtain rfl := hf.nil
  obtain ⟨n, rfl⟩ := h1.str Tryz.underlying9
  obtain ⟨xs, rfl, hx⟩ := h2.sl Tryz.underlying22
  obtain ⟨l, hl⟩ := zdy tmC xs fun x hx' => ih x (by have := List.sizeOf_lt_of_mem hx'; simp; omega) (hx x hx')
  exact ⟨.mk n l, by
   rw [zaa, PD.cells, PD.flat, PD.flat, PD.flat, PD.cells, PD.cells, hl, show Tryz.prog.cellsOf 24 = 2 from by kernel_rfl]; rfl⟩
theorem qbx {d : PD} (h : zbm Tryz.prog 22 d) : ∃ l : List Tm, d.cells = [tmS l] := by
 obtain ⟨xs, rfl, hx⟩ := h.sl Tryz.underlying22
 obtain ⟨l, hl⟩ := zdy tmC xs fun x hx' => zyu x (hx x hx')
 exact ⟨l, by rw [PD.cells, hl, show Tryz.prog.cellsOf 24 = 2 from by kernel_rfl]⟩
theorem ztv : ∀ d, zbm Tryz.prog 27 d -> ∃ a : Fm, d.cells = fmC a :=
 zmu fun d ih h => by
  obtain ⟨fs, rfl, hf⟩ := h.st Tryz.underlying27
  have hf : zc6 Tryz.prog [3, 24, 9, 25] fs := hf
  obtain ⟨x1, r1, rfl, h1, hf⟩ := hf.cons
  obtain ⟨x2, r2, rfl, h2, hf⟩ := hf.cons
  obtain ⟨x3, r3, rfl, h3, hf⟩ := hf.cons
  obtain ⟨x4, r4, rfl, h4, hf⟩ := hf.cons
  obtain rfl := hf.nil
  obtain ⟨o, rfl⟩ := h1.int Tryz.underlying3
  obtain ⟨a, ha⟩ := zyu _ h2
  obtain ⟨v, rfl⟩ := h3.str Tryz.underlying9
  obtain ⟨xs, rfl, hx⟩ := h4.sl Tryz.underlying25
  obtain ⟨l, hl⟩ := zdy fmC xs fun x hx' => ih x (by have := List.sizeOf_lt_of_mem hx'; simp; omega) (hx x hx')
  exact ⟨.mk o a v l, by
   rw [zab, PD.cells, PD.flat, PD.flat, PD.flat, PD.flat, PD.flat, PD.cells, PD.cells, PD.cells, hl, ha, zaa, show Tryz.prog.cellsOf 27 = 5 from by kernel_rfl]; rfl⟩
end Go.Proofs.YtemnhgmgeijkcaaGreat
namespace Go.Proofs.YtemnhgmgeijkcaaGreat
set_option linter.unusedSimpArgs false
set_option linter.unusedVariables false
set_option linter.unusedSectionVars false
set_option maxRecDepth 4000
open Go.RowKit
set_option maxHeartbeats 400000 in
theorem zj7 (xs : List Tm) (H : ∀ x ∈ xs, ∀ l : Int, 0 <= l -> l <= 1048576 -> FC Tryz.prog 57 [tmD x, iD l] [iD (szR x.wt l)]) (l : Int) (h0 : 0 <= l) (h1 : l <= 1048576) :
  FC Tryz.prog 59 [.one (tmS xs), iD l] [iD (szR (zfd xs) l)] := by
 refine zdm (fun hw => ?_) Tryz.call59
 have hl : xs.length <= 9223372036854775807 := by simpa [zhp, wfT] using hw.1.1
 refine zam Tryz.call59 Tryz.func59 rfl (by kernel_rfl) (za1 (by kernel_rfl)) ?_
 simp -implicitDefEqProofs only [go_sem, Tryz.results59]
 rw [zbp (by omega) (by omega)]
 have hW : zfd xs = xs.length + (xs.map Tm.wt).sum := rfl
 refine ⟨fun h => ?_, fun h => ?_⟩
 ·rw [zdf (by simp at h; omega)]
 ·have hlen : (xs.length : Int) <= l := by simp at h; omega
  refine zaf (fun k : Nat => hd [(0, vT (tmS xs)), (1, vI (l - xs.length - zmb Tm.wt xs k)), (5, vI k)] [] []) (fun k => k <= xs.length /\ 0 <= l - xs.length - zmb Tm.wt xs k) (fun k => xs.length - k) 0 (zac ?_) ?_ ?_
  ·simp -implicitDefEqProofs only [go_sem]
   simp [zd7]
  ·simpa [zd7] using hlen
  ·intro k ⟨hk, hp⟩
   by_cases hlt : k < xs.length
   ·have hs := zid Tm.wt xs k hlt
    have hs2 := zo6 Tm.wt xs (k + 1)
    simp -implicitDefEqProofs only [go_sem, List.length_map, zai, hlt, zaa]
    refine callF (H xs[k] (List.getElem_mem hlt) (l - xs.length - zmb Tm.wt xs k) hp (by omega)) (by simp -implicitDefEqProofs only [go_sem, zaa]) ?_
    simp -implicitDefEqProofs only [go_sem, zaa]
    refine ⟨fun h => ?_, fun h => ?_⟩
    ·have := zg0 hp (by simpa using h)
     rw [zdf (by omega)]
    ·obtain ⟨h2, h3⟩ := zeu (by simpa using h)
     rw [zao (by omega)]
     exact ⟨k + 1, ⟨hlt, by omega⟩, by omega, zac (by simp -implicitDefEqProofs only [go_sem]; rw [h3]; congr 1; omega)⟩
   ·simp -implicitDefEqProofs only [go_sem, List.length_map, hlt]
    have hall := zku Tm.wt xs k (by omega)
    rw [hall, zmy (by omega)]; congr 1; omega
set_option maxHeartbeats 400000 in
theorem zkl (xs : List Tm) (H : ∀ x ∈ xs, FC Tryz.prog 61 [tmD x] [tmD x]) (hs : xs.length <= 1048576) :
  FC Tryz.prog 63 [.one (tmS xs)] [.one (tmS xs)] := by
 refine zdm (fun hw => ?_) Tryz.call63
 refine zam Tryz.call63 Tryz.func63 rfl (by kernel_rfl) (za1 (by kernel_rfl)) ?_
 simp -implicitDefEqProofs only [go_sem, Tryz.results63]
 refine qcd (by simp -implicitDefEqProofs only [go_sem]; omega) ?_
 simp -implicitDefEqProofs only [go_sem]
 refine zaf (fun k : Nat => hd [(0, vT (tmS xs)), (3, .one (.ow 224 0)), (4, vI k)] [] [(224, ⟨true, 2, (xs.take k).map tmC ++ List.replicate (xs.length - k) [T.str [], T.sl 2 []], 0, true⟩)]) (fun k => k <= xs.length) (fun k => xs.length - k) 0 (zac ?_) ?_ ?_
 ·simp -implicitDefEqProofs only [go_sem]
  simp
 ·simp
 ·intro k hk
  by_cases hlt : k < xs.length
  ·have hlen : ((xs.take k).map tmC ++ List.replicate (xs.length - k) [T.str [], T.sl 2 []]).length = xs.length := by simp; omega
   have hlt2 : k < k + (xs.length - k) := by omega
   simp -implicitDefEqProofs only [go_sem, List.length_map, zai, hlt, zaa]
   refine callF (H xs[k] (List.getElem_mem hlt)) (by simp -implicitDefEqProofs only [go_sem, zaa, hlen, hlt, List.length_append, List.length_map, List.length_take, List.length_replicate, Nat.min_eq_left hk, hlt2]) ?_
   simp -implicitDefEqProofs only [go_sem, zaa, hlen, hlt, List.length_append, List.length_map, List.length_take, List.length_replicate, Nat.min_eq_left hk, hlt2]
   refine zha (by simp -implicitDefEqProofs only [go_sem]; simp) ?_
   simp -implicitDefEqProofs only [go_sem]
   rw [zao (by omega)]
   refine ⟨k + 1, by omega, by omega, zac ?_⟩
   simp -implicitDefEqProofs only [go_sem]
   have hf := zf2 ((xs.take k).map tmC) xs.length k [T.str [], T.sl 2 []] (tmC xs[k]) (by simp; omega) hlt (by simp [zaa])
   simp only [zaa] at hf
   rw [hf, List.take_succ_eq_append_getElem hlt, List.map_append, List.map_singleton]
   simp only [zaa]
  ·simp -implicitDefEqProofs only [go_sem, List.length_map, hlt]
   simp [List.take_of_length_le (show xs.length <= k by omega), show xs.length - k = 0 by omega]
set_option maxHeartbeats 400000 in
theorem zkk (xs ys : List Tm) (H : ∀ x ∈ xs, ∀ y, FC Tryz.prog 72 [tmD x, tmD y] [bD (same x y)]) :
  FC Tryz.prog 74 [.one (tmS xs), .one (tmS ys)] [bD (same xs ys)] := by
 refine zdm (fun hw => ?_) Tryz.call74
 have hl : xs.length <= 9223372036854775807 := by simpa [zhp, wfT] using hw.1.1
 have hl2 : ys.length <= 9223372036854775807 := by simpa [zhp, wfT] using hw.2.1.1
 refine zam Tryz.call74 Tryz.func74 rfl (by kernel_rfl) (za1 (by kernel_rfl)) ?_
 simp -implicitDefEqProofs only [go_sem, Tryz.results74]
 refine ⟨fun h => ?_, fun h => ?_⟩
 ·rw [zej.2 (by rintro rfl; simp at h)]
 ·have hlen : xs.length = ys.length := by simp at h; omega
  refine zaf (fun k : Nat => hd [(0, vT (tmS xs)), (1, vT (tmS ys)), (4, vB false), (5, vI k)] [] []) (fun k => k <= xs.length /\ same xs ys = same (xs.drop k) (ys.drop k)) (fun k => xs.length - k) 0 (zac ?_) ?_ ?_
  ·simp -implicitDefEqProofs only [go_sem]
  ·simp
  ·intro k ⟨hk, hr⟩
   by_cases hlt : k < xs.length
   ·have hk2 : k < ys.length := by omega
    simp -implicitDefEqProofs only [go_sem, List.length_map, hlt]
    refine drawn (by kernel_rfl) ?_
    simp -implicitDefEqProofs only [go_sem, List.length_map, zai, hlt, hk2, zaa]
    refine za6 (H xs[k] (List.getElem_mem hlt) ys[k]) (by simp -implicitDefEqProofs only [go_sem, zaa]) ?_
    simp -implicitDefEqProofs only [go_sem, zaa]
    refine ⟨by kernel_rfl, fun h => ?_, fun h => ?_⟩
    ·rw [hr, List.drop_eq_getElem_cons hlt, List.drop_eq_getElem_cons hk2, zdz, show same xs[k] ys[k] = false by simpa using h]; rfl
    ·rw [List.drop_eq_getElem_cons hlt, List.drop_eq_getElem_cons hk2, zdz, show same xs[k] ys[k] = true by simpa using h, Bool.true_and] at hr
     rw [zao (by omega)]
     exact ⟨k + 1, ⟨by omega, hr⟩, by omega, zac (by simp -implicitDefEqProofs only [go_sem])⟩
   ·simp -implicitDefEqProofs only [go_sem, List.length_map, hlt]
    rw [hr, List.drop_of_length_le (by omega), List.drop_of_length_le (by omega), zk7]
set_option maxHeartbeats 400000 in
theorem zw3 (a : Tm) (H : ∀ l : Int, 0 <= l -> l <= 1048576 -> FC Tryz.prog 59 [.one (tmS a.args), iD l] [iD (szR (zfd a.args) l)]) (l : Int) (h0 : 0 <= l) (h1 : l <= 1048576) :
  FC Tryz.prog 57 [tmD a, iD l] [iD (szR a.wt l)] := by
 refine zdm (fun hw => ?_) Tryz.call57
 simp only [tmD, zaa] at hw ⊢
 have hW := a.wt_eq
 have hls : a.name.length <= 9223372036854775807 /\ True := by simp [zhp, wfT, zqo] at hw; simp [hw]
 refine zam Tryz.call57 Tryz.func57 rfl (by kernel_rfl) (za1 (by kernel_rfl)) ?_
 simp -implicitDefEqProofs only [go_sem, Tryz.results57]
 rw [zbp (by omega) (by omega)]
 refine ⟨fun h1 => ?_, fun h1 => ?_⟩
 ·rw [zdf (by simp at h1; have hu0 : zfd a.args = a.args.length + (a.args.map Tm.wt).sum := rfl;  omega)]
 have k1 : (a.name.length : Int) <= l := by simp at h1; omega
 refine callF (H (l - (a.name.length : Int)) (by omega) (by omega)) (by simp -implicitDefEqProofs only [go_sem, zaa]) ?_
 simp -implicitDefEqProofs only [go_sem, zaa]
 refine ⟨fun h2 => ?_, fun h2 => ?_⟩
 ·have := zg0 (by omega) (show szR (zfd a.args) (l - (a.name.length : Int)) < 0 by simpa using h2)
  rw [zdf (by have hu0 : zfd a.args = a.args.length + (a.args.map Tm.wt).sum := rfl;  omega)]
 obtain ⟨k2, j2⟩ := zeu (show ¬ szR (zfd a.args) (l - (a.name.length : Int)) < 0 by simpa using h2)
 rw [show szR a.wt l = l - a.wt from zmy (by have hu0 : zfd a.args = a.args.length + (a.args.map Tm.wt).sum := rfl;  omega)]; exact zuu (by have hu0 : zfd a.args = a.args.length + (a.args.map Tm.wt).sum := rfl;  omega)
set_option maxHeartbeats 400000 in
theorem zvm (a : Tm) (H : FC Tryz.prog 63 [.one (tmS a.args)] [.one (tmS a.args)]) (hs : a.wt <= 1048576) : FC Tryz.prog 61 [tmD a] [tmD a] := by
 have hW := a.wt_eq
 simp only [tmD, zaa]
 refine zam Tryz.call61 Tryz.func61 rfl (by kernel_rfl) (za1 (by kernel_rfl)) ?_
 simp -implicitDefEqProofs only [go_sem, Tryz.results61]
 refine callF (H) (by simp -implicitDefEqProofs only [go_sem, zaa]) ?_
 simp -implicitDefEqProofs only [go_sem, zaa]
set_option maxHeartbeats 400000 in
theorem zw0 (a b : Tm) (H : FC Tryz.prog 74 [.one (tmS a.args), .one (tmS b.args)] [bD (same a.args b.args)]) : FC Tryz.prog 72 [tmD a, tmD b] [bD (same a b)] := by
 simp only [tmD, zaa]
 refine zam Tryz.call72 Tryz.func72 rfl (by kernel_rfl) (za1 (by kernel_rfl)) ?_
 simp -implicitDefEqProofs only [go_sem, Tryz.results72]
 refine ⟨fun h1 => ?_, fun h1 => ?_⟩
 ·rw [zej.2 (by rintro rfl; simp [zbe] at h1)]
 refine callF (H) (by simp -implicitDefEqProofs only [go_sem, zaa]) ?_
 simp -implicitDefEqProofs only [go_sem, zaa]
 refine ⟨fun h2 => ?_, fun h2 => ?_⟩
 ·rw [zej.2 (by rintro rfl; simp [zbe] at h2)]
 rw [zea.2 (by cases a; cases b; simp [zea, Tm.name, Tm.args] at h1 h2 ⊢; simp [h1, h2])]
theorem zrz : ∀ a : Tm, ∀ l : Int, 0 <= l -> l <= 1048576 -> FC Tryz.prog 57 [tmD a, iD l] [iD (szR a.wt l)] :=
 zbd fun b0 xs ih l h0 h1 => zw3 (.mk b0 xs) (fun l h0 h1 => zj7 xs ih l h0 h1) l h0 h1
theorem zwr (xs : List Tm) (l : Int) (h0 : 0 <= l) (h1 : l <= 1048576) : FC Tryz.prog 59 [.one (tmS xs), iD l] [iD (szR (zfd xs) l)] := zj7 xs (fun x _ => zrz x) l h0 h1
theorem zri : ∀ a : Tm, a.wt <= 1048576 -> FC Tryz.prog 61 [tmD a] [tmD a] := by
 refine zbd fun b0 xs ih hs => ?_
 have hW := Tm.wt_eq (.mk b0 xs)
 simp only [Tm.name, Tm.args] at hW
 refine zvm _ (zkl xs (fun x hx => ih x hx ?_) (by omega)) hs
 have := zbk Tm.wt xs x hx
 omega
theorem zyo (xs : List Tm) (hs : zfd xs <= 1048576) : FC Tryz.prog 63 [.one (tmS xs)] [.one (tmS xs)] :=
 zkl xs (fun x hx => zri x (by have := zbk Tm.wt xs x hx; unfold zfd at hs; omega)) (by unfold zfd at hs; omega)
theorem zsn : ∀ a b : Tm, FC Tryz.prog 72 [tmD a, tmD b] [bD (same a b)] :=
 zbd fun b0 xs ih b => zw0 (.mk b0 xs) b (zkk xs b.args ih)
theorem zvz (xs ys : List Tm) : FC Tryz.prog 74 [.one (tmS xs), .one (tmS ys)] [bD (same xs ys)] := zkk xs ys fun x _ => zsn x
end Go.Proofs.YtemnhgmgeijkcaaGreat
namespace Go.Proofs.YtemnhgmgeijkcaaGreat
set_option linter.unusedSimpArgs false
set_option linter.unusedVariables false
set_option linter.unusedSectionVars false
set_option maxRecDepth 4000
open Go.RowKit
set_option maxHeartbeats 400000 in
theorem zlu (xs : List Fm) (H : ∀ x ∈ xs, ∀ l : Int, 0 <= l -> l <= 1048576 -> FC Tryz.prog 12 [fmD x, iD l] [iD (szR x.wt l)]) (l : Int) (h0 : 0 <= l) (h1 : l <= 1048576) :
  FC Tryz.prog 58 [.one (fmS xs), iD l] [iD (szR (zp4 xs) l)] := by
 refine zdm (fun hw => ?_) Tryz.call58
 have hl : xs.length <= 9223372036854775807 := by simpa [zhp, wfT] using hw.1.1
 refine zam Tryz.call58 Tryz.func58 rfl (by kernel_rfl) (za1 (by kernel_rfl)) ?_
 simp -implicitDefEqProofs only [go_sem, Tryz.results58]
 rw [zbp (by omega) (by omega)]
 have hW : zp4 xs = xs.length + (xs.map Fm.wt).sum := rfl
 refine ⟨fun h => ?_, fun h => ?_⟩
 ·rw [zdf (by simp at h; omega)]
 ·have hlen : (xs.length : Int) <= l := by simp at h; omega
  refine zaf (fun k : Nat => hd [(0, vT (fmS xs)), (1, vI (l - xs.length - zmb Fm.wt xs k)), (5, vI k)] [] []) (fun k => k <= xs.length /\ 0 <= l - xs.length - zmb Fm.wt xs k) (fun k => xs.length - k) 0 (zac ?_) ?_ ?_
  ·simp -implicitDefEqProofs only [go_sem]
   simp [zd7]
  ·simpa [zd7] using hlen
  ·intro k ⟨hk, hp⟩
   by_cases hlt : k < xs.length
   ·have hs := zid Fm.wt xs k hlt
    have hs2 := zo6 Fm.wt xs (k + 1)
    simp -implicitDefEqProofs only [go_sem, List.length_map, zai, hlt, zab, zaa]
    refine callF (H xs[k] (List.getElem_mem hlt) (l - xs.length - zmb Fm.wt xs k) hp (by omega)) (by simp -implicitDefEqProofs only [go_sem, zab, zaa]) ?_
    simp -implicitDefEqProofs only [go_sem, zab, zaa]
    refine ⟨fun h => ?_, fun h => ?_⟩
    ·have := zg0 hp (by simpa using h)
     rw [zdf (by omega)]
    ·obtain ⟨h2, h3⟩ := zeu (by simpa using h)
     rw [zao (by omega)]
     exact ⟨k + 1, ⟨hlt, by omega⟩, by omega, zac (by simp -implicitDefEqProofs only [go_sem]; rw [h3]; congr 1; omega)⟩
   ·simp -implicitDefEqProofs only [go_sem, List.length_map, hlt]
    have hall := zku Fm.wt xs k (by omega)
    rw [hall, zmy (by omega)]; congr 1; omega
set_option maxHeartbeats 400000 in
theorem zkv (xs : List Fm) (H : ∀ x ∈ xs, FC Tryz.prog 15 [fmD x] [fmD x]) (hs : xs.length <= 1048576) :
  FC Tryz.prog 62 [.one (fmS xs)] [.one (fmS xs)] := by
 refine zdm (fun hw => ?_) Tryz.call62
 refine zam Tryz.call62 Tryz.func62 rfl (by kernel_rfl) (za1 (by kernel_rfl)) ?_
 simp -implicitDefEqProofs only [go_sem, Tryz.results62]
 refine qcd (by simp -implicitDefEqProofs only [go_sem]; omega) ?_
 simp -implicitDefEqProofs only [go_sem]
 refine zaf (fun k : Nat => hd [(0, vT (fmS xs)), (3, .one (.ow 224 0)), (4, vI k)] [] [(224, ⟨true, 5, (xs.take k).map fmC ++ List.replicate (xs.length - k) [T.int .i64 0, T.str [], T.sl 2 [], T.str [], T.sl 5 []], 0, true⟩)]) (fun k => k <= xs.length) (fun k => xs.length - k) 0 (zac ?_) ?_ ?_
 ·simp -implicitDefEqProofs only [go_sem]
  simp
 ·simp
 ·intro k hk
  by_cases hlt : k < xs.length
  ·have hlen : ((xs.take k).map fmC ++ List.replicate (xs.length - k) [T.int .i64 0, T.str [], T.sl 2 [], T.str [], T.sl 5 []]).length = xs.length := by simp; omega
   have hlt2 : k < k + (xs.length - k) := by omega
   simp -implicitDefEqProofs only [go_sem, List.length_map, zai, hlt, zab, zaa]
   refine callF (H xs[k] (List.getElem_mem hlt)) (by simp -implicitDefEqProofs only [go_sem, zab, zaa, hlen, hlt, List.length_append, List.length_map, List.length_take, List.length_replicate, Nat.min_eq_left hk, hlt2]) ?_
   simp -implicitDefEqProofs only [go_sem, zab, zaa, hlen, hlt, List.length_append, List.length_map, List.length_take, List.length_replicate, Nat.min_eq_left hk, hlt2]
   refine zha (by simp -implicitDefEqProofs only [go_sem]; simp) ?_
   simp -implicitDefEqProofs only [go_sem]
   rw [zao (by omega)]
   refine ⟨k + 1, by omega, by omega, zac ?_⟩
   simp -implicitDefEqProofs only [go_sem]
   have hf := zf2 ((xs.take k).map fmC) xs.length k [T.int .i64 0, T.str [], T.sl 2 [], T.str [], T.sl 5 []] (fmC xs[k]) (by simp; omega) hlt (by simp [zab, zaa])
   simp only [zab, zaa] at hf
   rw [hf, List.take_succ_eq_append_getElem hlt, List.map_append, List.map_singleton]
   simp only [zab, zaa]
  ·simp -implicitDefEqProofs only [go_sem, List.length_map, hlt]
   simp [List.take_of_length_le (show xs.length <= k by omega), show xs.length - k = 0 by omega]
set_option maxHeartbeats 400000 in
theorem zkw (xs ys : List Fm) (H : ∀ x ∈ xs, ∀ y, FC Tryz.prog 18 [fmD x, fmD y] [bD (same x y)]) :
  FC Tryz.prog 73 [.one (fmS xs), .one (fmS ys)] [bD (same xs ys)] := by
 refine zdm (fun hw => ?_) Tryz.call73
 have hl : xs.length <= 9223372036854775807 := by simpa [zhp, wfT] using hw.1.1
 have hl2 : ys.length <= 9223372036854775807 := by simpa [zhp, wfT] using hw.2.1.1
 refine zam Tryz.call73 Tryz.func73 rfl (by kernel_rfl) (za1 (by kernel_rfl)) ?_
 simp -implicitDefEqProofs only [go_sem, Tryz.results73]
 refine ⟨fun h => ?_, fun h => ?_⟩
 ·rw [zej.2 (by rintro rfl; simp at h)]
 ·have hlen : xs.length = ys.length := by simp at h; omega
  refine zaf (fun k : Nat => hd [(0, vT (fmS xs)), (1, vT (fmS ys)), (4, vB false), (5, vI k)] [] []) (fun k => k <= xs.length /\ same xs ys = same (xs.drop k) (ys.drop k)) (fun k => xs.length - k) 0 (zac ?_) ?_ ?_
  ·simp -implicitDefEqProofs only [go_sem]
  ·simp
  ·intro k ⟨hk, hr⟩
   by_cases hlt : k < xs.length
   ·have hk2 : k < ys.length := by omega
    simp -implicitDefEqProofs only [go_sem, List.length_map, hlt]
    refine drawn (by kernel_rfl) ?_
    simp -implicitDefEqProofs only [go_sem, List.length_map, zai, hlt, hk2, zab, zaa]
    refine za6 (H xs[k] (List.getElem_mem hlt) ys[k]) (by simp -implicitDefEqProofs only [go_sem, zab, zaa]) ?_
    simp -implicitDefEqProofs only [go_sem, zab, zaa]
    refine ⟨by kernel_rfl, fun h => ?_, fun h => ?_⟩
    ·rw [hr, List.drop_eq_getElem_cons hlt, List.drop_eq_getElem_cons hk2, zdz, show same xs[k] ys[k] = false by simpa using h]; rfl
    ·rw [List.drop_eq_getElem_cons hlt, List.drop_eq_getElem_cons hk2, zdz, show same xs[k] ys[k] = true by simpa using h, Bool.true_and] at hr
     rw [zao (by omega)]
     exact ⟨k + 1, ⟨by omega, hr⟩, by omega, zac (by simp -implicitDefEqProofs only [go_sem])⟩
   ·simp -implicitDefEqProofs only [go_sem, List.length_map, hlt]
    rw [hr, List.drop_of_length_le (by omega), List.drop_of_length_le (by omega), zk7]
set_option maxHeartbeats 400000 in
theorem zmg (a : Fm) (H : ∀ l : Int, 0 <= l -> l <= 1048576 -> FC Tryz.prog 58 [.one (fmS a.parts), iD l] [iD (szR (zp4 a.parts) l)]) (l : Int) (h0 : 0 <= l) (h1 : l <= 1048576) :
  FC Tryz.prog 12 [fmD a, iD l] [iD (szR a.wt l)] := by
 refine zdm (fun hw => ?_) Tryz.call12
 simp only [fmD, zab, zaa] at hw ⊢
 have hW := a.wt_eq
 have hls : a.var.length <= 9223372036854775807 /\ True := by simp [zhp, wfT, zqo] at hw; simp [hw]
 refine zam Tryz.call12 Tryz.func12 rfl (by kernel_rfl) (za1 (by kernel_rfl)) ?_
 simp -implicitDefEqProofs only [go_sem, Tryz.results12]
 refine callF (zrz a.atom l (by omega) (by omega)) (by simp -implicitDefEqProofs only [go_sem, zab, zaa, zaa]) ?_
 simp -implicitDefEqProofs only [go_sem, zab, zaa, zaa]
 refine ⟨fun h1 => ?_, fun h1 => ?_⟩
 ·have := zg0 (by omega) (show szR a.atom.wt l < 0 by simpa using h1)
  rw [zdf (by have hu0 : zp4 a.parts = a.parts.length + (a.parts.map Fm.wt).sum := rfl;  omega)]
 obtain ⟨k1, j1⟩ := zeu (show ¬ szR a.atom.wt l < 0 by simpa using h1)
 rw [zbp (by omega) (by omega)]
 refine ⟨fun h2 => ?_, fun h2 => ?_⟩
 ·rw [zdf (by simp at h2; have hu0 : zp4 a.parts = a.parts.length + (a.parts.map Fm.wt).sum := rfl;  omega)]
 have k2 : (a.var.length : Int) <= (szR a.atom.wt l) := by simp at h2; omega
 refine callF (H ((szR a.atom.wt l) - (a.var.length : Int)) (by omega) (by omega)) (by simp -implicitDefEqProofs only [go_sem, zab, zaa]) ?_
 simp -implicitDefEqProofs only [go_sem, zab, zaa]
 refine ⟨fun h3 => ?_, fun h3 => ?_⟩
 ·have := zg0 (by omega) (show szR (zp4 a.parts) ((szR a.atom.wt l) - (a.var.length : Int)) < 0 by simpa using h3)
  rw [zdf (by have hu0 : zp4 a.parts = a.parts.length + (a.parts.map Fm.wt).sum := rfl;  omega)]
 obtain ⟨k3, j3⟩ := zeu (show ¬ szR (zp4 a.parts) ((szR a.atom.wt l) - (a.var.length : Int)) < 0 by simpa using h3)
 rw [show szR a.wt l = l - a.wt from zmy (by have hu0 : zp4 a.parts = a.parts.length + (a.parts.map Fm.wt).sum := rfl;  omega)]; exact zuu (by have hu0 : zp4 a.parts = a.parts.length + (a.parts.map Fm.wt).sum := rfl;  omega)
set_option maxHeartbeats 400000 in
theorem znz (a : Fm) (H : FC Tryz.prog 62 [.one (fmS a.parts)] [.one (fmS a.parts)]) (hs : a.wt <= 1048576) : FC Tryz.prog 15 [fmD a] [fmD a] := by
 have hW := a.wt_eq
 simp only [fmD, zab, zaa]
 refine zam Tryz.call15 Tryz.func15 rfl (by kernel_rfl) (za1 (by kernel_rfl)) ?_
 simp -implicitDefEqProofs only [go_sem, Tryz.results15]
 refine callF (zri a.atom (by have hu0 : zp4 a.parts = a.parts.length + (a.parts.map Fm.wt).sum := rfl;  omega)) (by simp -implicitDefEqProofs only [go_sem, zab, zaa, zaa]) ?_
 simp -implicitDefEqProofs only [go_sem, zab, zaa, zaa]
 refine callF (H) (by simp -implicitDefEqProofs only [go_sem, zab, zaa]) ?_
 simp -implicitDefEqProofs only [go_sem, zab, zaa]
set_option maxHeartbeats 400000 in
theorem zno (a b : Fm) (H : FC Tryz.prog 73 [.one (fmS a.parts), .one (fmS b.parts)] [bD (same a.parts b.parts)]) : FC Tryz.prog 18 [fmD a, fmD b] [bD (same a b)] := by
 simp only [fmD, zab, zaa]
 refine zam Tryz.call18 Tryz.func18 rfl (by kernel_rfl) (za1 (by kernel_rfl)) ?_
 simp -implicitDefEqProofs only [go_sem, Tryz.results18]
 refine ⟨fun h1 => ?_, fun h1 => ?_⟩
 ·rw [zej.2 (by rintro rfl; simp [zbe] at h1)]
 refine callF (zsn a.atom b.atom) (by simp -implicitDefEqProofs only [go_sem, zab, zaa, zaa]) ?_
 simp -implicitDefEqProofs only [go_sem, zab, zaa, zaa]
 refine ⟨fun h2 => ?_, fun h2 => ?_⟩
 ·rw [zej.2 (by rintro rfl; simp [zbe] at h2)]
 refine ⟨fun h3 => ?_, fun h3 => ?_⟩
 ·rw [zej.2 (by rintro rfl; simp [zbe] at h3)]
 refine callF (H) (by simp -implicitDefEqProofs only [go_sem, zab, zaa]) ?_
 simp -implicitDefEqProofs only [go_sem, zab, zaa]
 refine ⟨fun h4 => ?_, fun h4 => ?_⟩
 ·rw [zej.2 (by rintro rfl; simp [zbe] at h4)]
 rw [zea.2 (by cases a; cases b; simp [zea, Fm.op, Fm.atom, Fm.var, Fm.parts] at h1 h2 h3 h4 ⊢; simp [h1, h2, h3, h4])]
theorem zqc : ∀ a : Fm, ∀ l : Int, 0 <= l -> l <= 1048576 -> FC Tryz.prog 12 [fmD a, iD l] [iD (szR a.wt l)] :=
 zba fun b0 b1 b2 xs ih l h0 h1 => zmg (.mk b0 b1 b2 xs) (fun l h0 h1 => zlu xs ih l h0 h1) l h0 h1
theorem zpn : ∀ a : Fm, a.wt <= 1048576 -> FC Tryz.prog 15 [fmD a] [fmD a] := by
 refine zba fun b0 b1 b2 xs ih hs => ?_
 have hW := Fm.wt_eq (.mk b0 b1 b2 xs)
 simp only [Fm.op, Fm.atom, Fm.var, Fm.parts] at hW
 refine znz _ (zkv xs (fun x hx => ih x hx ?_) (by omega)) hs
 have := zbk Fm.wt xs x hx
 omega
theorem zi2 : ∀ a b : Fm, FC Tryz.prog 18 [fmD a, fmD b] [bD (same a b)] :=
 zba fun b0 b1 b2 xs ih b => zno (.mk b0 b1 b2 xs) b (zkw xs b.parts ih)
end Go.Proofs.YtemnhgmgeijkcaaGreat
namespace Go.Proofs.YtemnhgmgeijkcaaGreat
set_option linter.unusedSimpArgs false
set_option linter.unusedVariables false
set_option linter.unusedSectionVars false
set_option maxRecDepth 4000
open Go.RowKit
def ze2 (b : UInt8) : Bool := decide (97 <= (b.toNat : Int)) && decide ((b.toNat : Int) <= 122)
def qbb (b : UInt8) : Bool := decide (48 <= (b.toNat : Int)) && decide ((b.toNat : Int) <= 57)
def zjf (b : UInt8) : Bool := decide (65 <= (b.toNat : Int)) && decide ((b.toNat : Int) <= 90)
def zlj (b : UInt8) : Bool := ze2 b || qbb b
abbrev uD (b : UInt8) : D := .one (.int .u8 b.toNat)
theorem zgk (b : UInt8) : FC Tryz.prog 275 [uD b] [bD (ze2 b)] := by
 unfold ze2
 refine zam Tryz.call275 Tryz.func275 rfl (by kernel_rfl) (za1 (by kernel_rfl)) ?_
 simp -implicitDefEqProofs only [go_sem, Tryz.results275]
 refine ⟨fun h => ?_, fun h => ?_⟩ <;> simp at h ⊢ <;> omega
theorem znt (b : UInt8) : FC Tryz.prog 276 [uD b] [bD (qbb b)] := by
 unfold qbb
 refine zam Tryz.call276 Tryz.func276 rfl (by kernel_rfl) (za1 (by kernel_rfl)) ?_
 simp -implicitDefEqProofs only [go_sem, Tryz.results276]
 refine ⟨fun h => ?_, fun h => ?_⟩ <;> simp at h ⊢ <;> omega
theorem zmz (b : UInt8) : FC Tryz.prog 263 [uD b] [bD (zjf b)] := by
 unfold zjf
 refine zam Tryz.call263 Tryz.func263 rfl (by kernel_rfl) (za1 (by kernel_rfl)) ?_
 simp -implicitDefEqProofs only [go_sem, Tryz.results263]
 refine ⟨fun h => ?_, fun h => ?_⟩ <;> simp at h ⊢ <;> omega
def inB (n lo hi : Int) : Bool := decide (lo <= n) && decide (n <= hi)
theorem zra (n lo hi : Int) : FC Tryz.prog 204 [iD n, iD lo, iD hi] [bD (inB n lo hi)] := by
 unfold inB
 refine zam Tryz.call204 Tryz.func204 rfl (by kernel_rfl) (za1 (by kernel_rfl)) ?_
 simp -implicitDefEqProofs only [go_sem, Tryz.results204]
 refine ⟨fun h => ?_, fun h => ?_⟩ <;> simp at h ⊢ <;> omega
theorem qd8 (n lo hi : Int) : FC Tryz.prog 195 [iD n, iD lo, iD hi] [bD (inB n lo hi)] := by
 unfold inB
 refine zam Tryz.call195 Tryz.func195 rfl (by kernel_rfl) (za1 (by kernel_rfl)) ?_
 simp -implicitDefEqProofs only [go_sem, Tryz.results195]
 refine ⟨fun h => ?_, fun h => ?_⟩ <;> simp at h ⊢ <;> omega
theorem qdl (a b : Int) : FC Tryz.prog 296 [iD a, iD b] [iD (max a b)] := by
 refine zam Tryz.call296 Tryz.func296 rfl (by kernel_rfl) (za1 (by kernel_rfl)) ?_
 simp -implicitDefEqProofs only [go_sem, Tryz.results296]
 refine ⟨fun h => ?_, fun h => ?_⟩ <;> simp at h <;> exact zuu (by omega)
theorem zm6 (b : UInt8) : FC Tryz.prog 273 [uD b] [bD (zlj b)] := by
 unfold zlj ze2 qbb
 refine zam Tryz.call273 Tryz.func273 rfl (by kernel_rfl) (za1 (by kernel_rfl)) ?_
 simp -implicitDefEqProofs only [go_sem, Tryz.results273]
 simp only [T.bool.injEq, decide_eq_true_eq, decide_eq_false_iff_not]
 refine ⟨fun h => ⟨fun h2 => ⟨fun h3 => ?_, fun h3 => ?_⟩, fun h2 => ?_⟩, fun h => ⟨fun h2 => ?_, fun h2 => ?_⟩⟩ <;> simp [h, h2] <;> omega
def zoo : Str -> Bool
 | [] => true
 | c :: cs => zjf c && cs.all zlj
def za2 (s : Str) : Bool := zoo s && inB s.length 1 4
theorem ze1 (s : Str) : FC Tryz.prog 228 [sD s] [bD (za2 s)] := by
 refine zdm (fun hw => ?_) Tryz.call228
 have hl : s.length <= 9223372036854775807 := by simpa [zhp, wfT] using hw.1
 refine zam Tryz.call228 Tryz.func228 rfl (by kernel_rfl) (za1 (by kernel_rfl)) ?_
 simp -implicitDefEqProofs only [go_sem, Tryz.results228]
 refine zaf (fun k : Nat => hd [(0, vT (.str s)), (5, vI s.length), (6, vI k)] [] []) (fun k => k <= s.length /\ zoo s = if k = 0 then zoo s else (s.drop k).all zlj) (fun k => s.length - k) 0 (zac ?_) ?_ ?_
 ·simp -implicitDefEqProofs only [go_sem]
 ·simp
 ·intro k ⟨hk, hr⟩
  by_cases hlt : k < s.length
  ·by_cases h0 : k = 0
   ·subst h0
    have hl0 : (0 : Int) < s.length := by omega
    have he : zoo s = (zjf (s.getD 0 0) && (s.drop 1).all zlj) := by cases s; exact absurd hlt (by simp); rfl
    simp -implicitDefEqProofs only [go_sem, hlt, hl0]
    refine callF (zmz (s.getD 0 0)) (by simp -implicitDefEqProofs only [go_sem]) ?_
    simp -implicitDefEqProofs only [go_sem]
    refine ⟨fun h => ⟨1, ⟨hlt, ?_⟩, by omega, zac (by simp -implicitDefEqProofs only [go_sem]; rw [zbp (by omega) (by omega)])⟩, fun h => ?_⟩
    ·have : zjf (s.getD 0 0) = true := by simpa using h
     rw [he, this]; rfl
    ·have : zjf (s.getD 0 0) = false := by simpa using h
     rw [za2, he, this]; rfl
   ·have h1 : ((k : Int) == 0) = false := by simp; omega
    have h2 : (0 : Int) < k := by omega
    have hg : s.getD k 0 = s[k] := by simp [List.getD, hlt]
    rw [if_neg h0, List.drop_eq_getElem_cons hlt, List.all_cons] at hr
    simp -implicitDefEqProofs only [go_sem, hlt, h1, h2]
    refine callF (zgk (s.getD k 0)) (by simp -implicitDefEqProofs only [go_sem]) ?_
    simp -implicitDefEqProofs only [go_sem]
    simp only [hg]
    refine ⟨fun h => ⟨hlt, ?_⟩, fun h => ?_⟩
    ·refine callF (znt s[k]) (by simp -implicitDefEqProofs only [go_sem]) ?_
     simp -implicitDefEqProofs only [go_sem]
     refine ⟨fun h' => ?_, fun h' => ⟨k + 1, ⟨hlt, ?_⟩, by omega, zac (by simp -implicitDefEqProofs only [go_sem]; rw [zao (by omega)])⟩⟩
     ·have : zlj s[k] = false := by simp [zlj]; simp at h h'; exact ⟨h, h'⟩
      simp [za2, hr, this]
     ·have : zlj s[k] = true := by simp [zlj]; right; simpa using h'
      rw [hr, this]; simp
    ·refine ⟨k + 1, ⟨hlt, ?_⟩, by omega, zac (by simp -implicitDefEqProofs only [go_sem]; rw [zao (by omega)])⟩
     have : zlj s[k] = true := by simp [zlj]; left; simpa using h
     rw [hr, this]; simp
  ·simp -implicitDefEqProofs only [go_sem, hlt]
   refine callF (zra s.length 1 4) (by simp -implicitDefEqProofs only [go_sem]) ?_
   simp -implicitDefEqProofs only [go_sem]
   have : zoo s = true := by
    by_cases h0 : k = 0
    ·have : s = [] := List.length_eq_zero_iff.1 (by omega)
     rw [this]; rfl
    ·rw [hr, if_neg h0, List.drop_of_length_le (by omega)]; rfl
   simp [za2, this]
end Go.Proofs.YtemnhgmgeijkcaaGreat
namespace Go.Proofs.YtemnhgmgeijkcaaGreat
set_option linter.unusedSimpArgs false
set_option linter.unusedVariables false
set_option linter.unusedSectionVars false
set_option maxRecDepth 4000
open Go.RowKit
abbrev zb2 (xs : List Str) : T := .sl 1 (xs.map fun s => [.str s])
theorem zm1 {α : Type} [BEq α] [LawfulBEq α] {xs : List α} {s : α} {k : Nat} (hk : k < xs.length) (hn : s ∉ xs.take k) (e : xs[k] = s) : xs.idxOf s = k := by
 have h : xs = xs.take k ++ xs.drop k := (List.take_append_drop k xs).symm
 rw [List.drop_eq_getElem_cons hk] at h
 rw [h, List.idxOf_append, if_neg hn, e]
 rw [show (s :: xs.drop (k + 1)).idxOf s = 0 from List.idxOf_cons_self ..]
 simp; omega
theorem zem {α : Type} {xs : List α} {s : α} {k : Nat} (hk : k < xs.length) (hn : s ∉ xs.take k) (e : xs[k] ≠ s) : s ∉ xs.take (k + 1) := by
 rw [List.take_succ_eq_append_getElem hk]
 simp only [List.mem_append, List.mem_singleton, not_or]
 exact ⟨hn, fun h => e h.symm⟩
def qen {α : Type} [BEq α] (xs : List α) (s : α) : Int := if xs.contains s then xs.idxOf s else -1
theorem ztw (xs : List Str) (s : Str) : FC Tryz.prog 236 [.one (zb2 xs), sD s] [iD (qen xs s)] := by
 refine zdm (fun hw => ?_) Tryz.call236
 have hl : xs.length <= 9223372036854775807 := by simpa [zhp, wfT] using hw.1.1
 refine zam Tryz.call236 Tryz.func236 rfl (by kernel_rfl) (za1 (by kernel_rfl)) ?_
 simp -implicitDefEqProofs only [go_sem, Tryz.results236]
 refine zaf (fun k : Nat => hd [(0, vT (zb2 xs)), (1, vT (.str s)), (7, vI xs.length), (8, vI k)] [] []) (fun k => k <= xs.length /\ s ∉ xs.take k) (fun k => xs.length - k) 0 (zac ?_) ?_ ?_
 ·simp -implicitDefEqProofs only [go_sem]
 ·simp
 ·intro k ⟨hk, hr⟩
  by_cases hlt : k < xs.length
  ·simp -implicitDefEqProofs only [go_sem, zai, hlt]
   refine ⟨fun h => ?_, fun h => ?_⟩
   ·have e : xs[k] = s := (beq_iff_eq.1 h).symm
    have hm : s ∈ xs := e ▸ List.getElem_mem hlt
    rw [qen, if_pos (by simpa using hm), zm1 hlt hr e]
   ·have e : xs[k] ≠ s := fun e => by simp [e] at h
    exact ⟨k + 1, ⟨hlt, zem hlt hr e⟩, by omega, zac (by simp -implicitDefEqProofs only [go_sem]; rw [zao (by omega)])⟩
  ·simp -implicitDefEqProofs only [go_sem, hlt]
   rw [List.take_of_length_le (by omega)] at hr
   rw [qen, if_neg (by simpa using hr)]
theorem zc8 (xs : List Str) (s : Str) : FC Tryz.prog 171 [.one (zb2 xs), sD s] [bD (xs.contains s)] := by
 refine zam Tryz.call171 Tryz.func171 rfl (by kernel_rfl) (za1 (by kernel_rfl)) ?_
 simp -implicitDefEqProofs only [go_sem, Tryz.results171]
 refine callF (ztw xs s) (by simp -implicitDefEqProofs only [go_sem]) ?_
 simp -implicitDefEqProofs only [go_sem]
 unfold qen
 cases h : xs.contains s <;> simp
def zqh : List Str := [[116, 114, 117, 101], [102, 97, 108, 115, 101], [116, 114, 117, 116, 104], [98, 111, 116, 104], [101, 105, 116, 104, 101, 114], [105, 102], [97, 108, 108], [115, 111, 109, 101]]
theorem ztg : FC Tryz.prog 291 [] [.one (zb2 zqh)] := by
 refine zam Tryz.call291 Tryz.func291 rfl (by kernel_rfl) (za1 (by kernel_rfl)) ?_
 simp -implicitDefEqProofs only [go_sem, Tryz.results291]
 refine zbl (by simp -implicitDefEqProofs only [go_sem]) ?_
 simp -implicitDefEqProofs only [go_sem]
 rfl
def zld (b : UInt8) : Bool := zlj b || b == 95
def zix : Str -> Bool
 | [] => true
 | c :: cs => ze2 c && cs.all zld
def zcg (s : Str) : Bool := zix s && inB s.length 1 6 && !zqh.contains s
theorem qgq {b : UInt8} {n : Nat} (hn : n < 256) : ((b.toNat : Int) == (n : Int)) = (b == UInt8.ofNat n) := by
 rw [Bool.eq_iff_iff]
 simp only [beq_iff_eq]
 constructor
 ·intro h
  apply UInt8.toNat_inj.1
  simp [UInt8.toNat_ofNat]
  omega
 ·intro h
  subst h
  simp [UInt8.toNat_ofNat]
  omega
theorem zkj (s : Str) : FC Tryz.prog 261 [sD s] [bD (zcg s)] := by
 refine zdm (fun hw => ?_) Tryz.call261
 have hl : s.length <= 9223372036854775807 := by simpa [zhp, wfT] using hw.1
 refine zam Tryz.call261 Tryz.func261 rfl (by kernel_rfl) (za1 (by kernel_rfl)) ?_
 simp -implicitDefEqProofs only [go_sem, Tryz.results261]
 refine zaf (fun k : Nat => hd [(0, vT (.str s)), (5, vI s.length), (6, vI k)] [] []) (fun k => k <= s.length /\ zix s = if k = 0 then zix s else (s.drop k).all zld) (fun k => s.length - k) 0 (zac ?_) ?_ ?_
 ·simp -implicitDefEqProofs only [go_sem]
 ·simp
 ·intro k ⟨hk, hr⟩
  by_cases hlt : k < s.length
  ·by_cases h0 : k = 0
   ·subst h0
    have hl0 : (0 : Int) < s.length := by omega
    have he : zix s = (ze2 (s.getD 0 0) && (s.drop 1).all zld) := by cases s; exact absurd hlt (by simp); rfl
    simp -implicitDefEqProofs only [go_sem, hlt, hl0]
    refine callF (zgk (s.getD 0 0)) (by simp -implicitDefEqProofs only [go_sem]) ?_
    simp -implicitDefEqProofs only [go_sem]
    refine ⟨fun h => ⟨hl0, ?_⟩, fun h => ?_⟩
    ·have hi : ze2 (s.getD 0 0) = true := by simpa using h
     refine callF (zgk (s.getD 0 0)) (by simp -implicitDefEqProofs only [go_sem, hi]) ?_
     simp -implicitDefEqProofs only [go_sem, hi]
     refine ⟨1, ⟨hlt, ?_⟩, by omega, zac (by simp -implicitDefEqProofs only [go_sem]; rw [zbp (by omega) (by omega)])⟩
     rw [he, hi]; rfl
    ·have : ze2 (s.getD 0 0) = false := by simpa using h
     rw [zcg, he, this]; rfl
   ·have h1 : ((k : Int) == 0) = false := by simp; omega
    have h2 : (0 : Int) < k := by omega
    have hg : s.getD k 0 = s[k] := by simp [List.getD, hlt]
    rw [if_neg h0, List.drop_eq_getElem_cons hlt, List.all_cons] at hr
    simp -implicitDefEqProofs only [go_sem, hlt, h1, h2]
    refine callF (zgk (s.getD k 0)) (by simp -implicitDefEqProofs only [go_sem]) ?_
    simp -implicitDefEqProofs only [go_sem]
    simp only [hg]
    refine ⟨fun h => ⟨hlt, ?_⟩, fun h => ?_⟩
    ·refine callF (znt s[k]) (by simp -implicitDefEqProofs only [go_sem]) ?_
     simp -implicitDefEqProofs only [go_sem]
     simp only [hg]
     refine ⟨fun h' => ⟨hlt, fun h'' => ?_, fun h'' => ⟨k + 1, ⟨hlt, ?_⟩, by omega, zac (by simp -implicitDefEqProofs only [go_sem]; rw [zao (by omega)])⟩⟩, fun h' => ⟨k + 1, ⟨hlt, ?_⟩, by omega, zac (by simp -implicitDefEqProofs only [go_sem]; rw [zao (by omega)])⟩⟩
     ·have : zld s[k] = false := by
       have := qgq (b := s[k]) (n := 95) (by omega)
       simp [zld, zlj] at h h' ⊢
       refine ⟨⟨h, h'⟩, fun e => ?_⟩
       rw [e] at h''
       simp at h''
      rw [zcg, hr, this]; rfl
     ·have : zld s[k] = true := by
       have := qgq (b := s[k]) (n := 95) (by omega)
       simp [zld] at h'' ⊢
       right
       simpa [h''] using this
      rw [hr, this]; rfl
     ·have : zld s[k] = true := by simp [zld, zlj]; simp at h'; simp [h']
      rw [hr, this]; rfl
    ·refine ⟨k + 1, ⟨hlt, ?_⟩, by omega, zac (by simp -implicitDefEqProofs only [go_sem]; rw [zao (by omega)])⟩
     have : zld s[k] = true := by simp [zld, zlj]; simp at h; simp [h]
     rw [hr, this]; rfl
  ·simp -implicitDefEqProofs only [go_sem, hlt]
   refine callF (zra s.length 1 6) (by simp -implicitDefEqProofs only [go_sem]) ?_
   simp -implicitDefEqProofs only [go_sem]
   have ha : zix s = true := by
    by_cases h0 : k = 0
    ·have : s = [] := List.length_eq_zero_iff.1 (by omega)
     rw [this]; rfl
    ·rw [hr, if_neg h0, List.drop_of_length_le (by omega)]; rfl
   refine ⟨fun h => ?_, fun h => ?_⟩
   ·refine callF (ztg) (by simp -implicitDefEqProofs only [go_sem]) ?_
    simp -implicitDefEqProofs only [go_sem]
    refine callF (zc8 zqh s) (by simp -implicitDefEqProofs only [go_sem]) ?_
    simp -implicitDefEqProofs only [go_sem]
    rw [zcg, ha, h]; rfl
   ·rw [zcg, ha, h]; rfl
end Go.Proofs.YtemnhgmgeijkcaaGreat
namespace Go.Proofs.YtemnhgmgeijkcaaGreat
set_option linter.unusedSimpArgs false
set_option linter.unusedVariables false
set_option linter.unusedSectionVars false
set_option maxRecDepth 4000
open Go.RowKit Go.Sort Go.Proofs
variable {P : Program}
theorem zlo {w : World} : ∀ {ss : List Str} {vs : List Value} {fps : List Nat}, zas w (ss.map T.str) vs fps -> vs = ss.map encStr /\ fps = [] /\ ∀ s ∈ ss, s.length <= zei
 | [], vs, fps, h => ⟨h.1, h.2, by simp⟩
 | s :: ss, vs, fps, h => by
  obtain ⟨v, vs', f1, f2, rfl, rfl, h1, h2⟩ := h
  unfold zat at h1
  obtain ⟨rfl, k1, rfl⟩ := h1
  obtain ⟨rfl, rfl, k2⟩ := zlo h2
  exact ⟨rfl, rfl, fun x hx => (List.mem_cons.1 hx).elim (fun e => e ▸ k1) (k2 x)⟩
theorem zlz {w : World} : ∀ {ss : List Str}, (∀ s ∈ ss, s.length <= zei) -> zas w (ss.map T.str) (ss.map encStr) []
 | [], _ => ⟨rfl, rfl⟩
 | s :: ss, h => ⟨_, _, [], [], rfl, rfl, by unfold zat; exact ⟨rfl, h s (by simp), rfl⟩, zlz fun x hx => h x (by simp [hx])⟩
theorem zew (ss : List Str) : (ss.map fun s => [T.str s]).flatten = ss.map T.str := by induction ss <;> simp_all
theorem znb (ss : List Str) : lens 1 (ss.map fun s => [T.str s]) := fun r hr => by obtain ⟨s, _, rfl⟩ := List.mem_map.1 hr; rfl
abbrev zdl (ss : List Str) : List Str := ss.mergeSort leB
theorem qft {f : FuncId} (hc : za0 P f) (hS : ∀ (blk off cap : Nat) (ss : List (List UInt8)) (w : World), Holds encStr w blk off ss.toArray -> blk < w.heap.size -> ss.length < 4611686018427387904 →
   Calls P f #[.slice (some ⟨blk, off, none⟩) ss.length cap] w fun e w' => e = .returned (.tuple #[]) /\ ∃ n os, w' = grow (putRow encStr (Sort.ahead w n) blk off (ss.mergeSort fun x y => decide (x <= y)).toArray) os)
  (hN : ∀ (p : Option Addr) (cap : Nat) (w : World), Calls P f #[.slice p 0 cap] w fun e w' => e = .returned (.tuple #[]) /\ w' = w) (ss : List Str) (hl : ss.length < 4611686018427387904) : IC P f [] (.one (zb2 ss)) [] (.one (zb2 (zdl ss))) [] := by
 refine ⟨hc, fun w us1 v us2 fp tp h1 hg h2 hn => ?_⟩
 rw [show us1 = [] from h1, show us2 = [] from h2]
 obtain ⟨hg, _⟩ := hg
 unfold zat at hg
 obtain ⟨ao, cap, rfl, q1, q2, q3⟩ := hg
 rw [List.length_map] at q1 ⊢
 rcases q3 with ⟨rfl, rfl, q3, rfl⟩ | ⟨b, cells, ty, fps, rfl, rfl, q3, q4, q5⟩
 ·have hs : ss = [] := List.map_eq_nil_iff.1 q3
  subst hs
  refine (hN none 0 w).mono ?_
  rintro e w' ⟨rfl, rfl⟩
  refine ⟨[], [], [], rfl, ⟨_, [], [], [], [], [], rfl, rfl, rfl, ⟨?_, rfl⟩, rfl, rfl, rfl⟩, List.nodup_nil, by simp, Bk.refl _ _⟩
  unfold zat
  exact ⟨none, 0, by simp [zdl], by simp [zdl], by simp, Or.inl ⟨rfl, rfl, by simp [zdl], rfl⟩⟩
 ·obtain ⟨_, vs, k1, k2, k3⟩ := q5.vals
  rw [zew] at k3
  obtain ⟨rfl, rfl, k4⟩ := zlo k3
  have hsz : ss.length <= cells.size := by omega
  have ht : cells.toList.take ss.length = ss.map encStr := by
   apply List.ext_getElem?
   intro j
   by_cases hj : j < ss.length
   ·rw [List.getElem?_take_of_lt hj, Array.getElem?_toList]
    have := k2 j _ (List.getElem?_eq_getElem (by simpa using hj))
    rw [Nat.zero_add] at this
    rw [this, List.getElem?_eq_getElem (by simpa using hj)]
   ·rw [List.getElem?_take_eq_none (by omega), List.getElem?_eq_none (by simp; omega)]
  refine (hS b 0 cap ss w (holds_of_block q3 ht) (Array.getElem?_eq_some_iff.1 q3).1 hl).mono ?_
  rintro e w' ⟨rfl, n, os, rfl⟩
  have hgr := grownBy_sorted (w := w) (g := b) (n := n) (os := os) (ss.mergeSort fun x y => decide (x <= y)).toArray
  have hlen : (zdl ss).length = ss.length := by simp [zdl]
  have htk := take_putCells cells (zdl ss) (by omega)
  refine ⟨[], [b], [b], rfl, ⟨_, [], [b], [], [b], [], rfl, rfl, rfl, ⟨?_, rfl⟩, rfl, rfl, rfl⟩, by simp, fun x hx => Or.inl hx, ⟨hgr.os, hgr.tape, hgr.output, hgr.size, fun k hk => hgr.block k hk.1 fun e => hk.2 (by cases e; simp)⟩⟩
  unfold zat
  refine ⟨_, cap, by rw [List.length_map, hlen], by rw [List.length_map, hlen]; exact q1, q2, Or.inr ⟨b, _, ty, [], rfl, rfl, heap_sorted _ q3, by simp [putCells, q4], ?_⟩⟩
  refine zag.of_vals (znb _) (by rw [zew]; exact zlz fun s hs => k4 s ((List.mergeSort_perm ss leB).mem_iff.1 hs)) fun j u hu => ?_
  rw [<- htk, List.getElem?_take] at hu
  split at hu
  ·simpa using hu
  ·cases hu
structure CloneOf (P : Program) (f : FuncId) (sz bytes : Nat) : Prop where
 call : za0 P f
 old : ∀ (ad : Addr) (n c : Nat) (news : List Value) (w : World), news.length = n * sz -> n <= maxLen -> n * bytes <= 140737488355328 -> (∀ j u, news[j]? = some u -> w.cell? (ad.add j) = some u) -> (∀ u ∈ news, u.oneCell' = true) →
  Calls P f #[.slice (some ad) n c] w fun e w' => ∃ t v', e = .returned v' /\ w'.ownsRow w.heap.size t sz v' n news /\ v' ≠ .slice none 0 0 /\ Below w.heap.size w w'
 none : ∀ (n c : Nat) (w : World), Calls P f #[.slice none n c] w fun e w' => e = .returned (.slice none 0 0) /\ w' = w
theorem zal.valsA {w : World} {A : Nat -> Prop} {b sz : Nat} {rows : List (List T)} {o : Nat} (h : zal w A b o sz rows) : ∃ vs, vs.length = rows.length * sz /\ (∀ j u, vs[j]? = some u -> w.cell? ⟨b, o + j, none⟩ = some u) /\ zad w A rows.flatten vs /\ lens sz rows := by
 obtain ⟨h1, vs, h2, h3, h4⟩ := h.vals
 exact ⟨vs, h2, h3, h4, h1⟩
theorem zw5 {f : FuncId} {sz bytes : Nat} (h : CloneOf P f sz bytes) (rows : List (List T)) (hb : rows.length * bytes <= 140737488355328) {w : World} {A : Nat -> Prop} {v : Value} (h1 : zak w A (.sl sz rows) v) :
  Calls P f #[v] w fun e w' => ∃ v', e = .returned v' /\ Below w.heap.size w w' /\ ((v' = .slice none 0 0 /\ rows = []) \/ ∃ g cap cur ty vs, v' = .slice (some ⟨g, 0, none⟩) rows.length cap /\ w.heap.size <= g /\ w'.heap[g]? = some (.cells cur ty (0, 0)) /\ rows.length <= cap /\ cap <= zei /\ cur.size = cap * sz /\ cur.toList.take (rows.length * sz) = vs /\ zad w A rows.flatten vs /\ lens sz rows) := by
 unfold zak at h1
 obtain ⟨ao, cap, rfl, q1, q2, q3⟩ := h1
 cases ao with
 | none =>
  have hr : rows = [] := q3.resolve_right fun ⟨b, o, e, _⟩ => by cases e
  refine (h.none rows.length cap w).mono ?_
  rintro e w' ⟨rfl, rfl⟩
  exact ⟨_, rfl, Below.refl _ _, Or.inl ⟨rfl, hr⟩⟩
 | some ad =>
  have hx : ∃ news : List Value, news.length = rows.length * sz /\ (∀ j u, news[j]? = some u -> w.cell? (ad.add j) = some u) /\ zad w A rows.flatten news /\ lens sz rows := by
   rcases q3 with rfl | ⟨b', o', e, _, q4⟩
   ·exact ⟨[], by simp, fun j u hj => by simp at hj, by unfold zad; rfl, fun r hr => by simp at hr⟩
   ·cases e
    obtain ⟨news, k1, k2, k3, k4⟩ := q4.valsA
    exact ⟨news, k1, fun j u hj => by rw [zef]; exact k2 j u hj, k3, k4⟩
  obtain ⟨news, k1, k2, k3, k4⟩ := hx
  refine (h.old ad rows.length cap news w k1 (by unfold maxLen; have := q2; unfold zei at this; omega) hb k2 k3.one).mono ?_
  rintro e w' ⟨t, v', rfl, ⟨o1, o2⟩, hn, hbel⟩
  refine ⟨v', rfl, hbel, Or.inr ?_⟩
  rcases o2 with ⟨e, _⟩ | ⟨g, cap', cur, e, p1, p2, p3, p4, p5, p6⟩
  ·exact absurd e hn
  ·exact ⟨g, cap', cur, t, news, e, p1, p2, p3, by unfold maxLen at p4; omega, p5, p6, k3, k4⟩
theorem qhk {cur : Array Value} {vs : List Value} {n : Nat} (h : cur.toList.take n = vs) : ∀ j u, vs[j]? = some u -> cur[0 + j]? = some u := fun j u hu => by
 rw [<- h, List.getElem?_take] at hu
 split at hu
 ·simpa using hu
 ·cases hu
theorem qc0 {f : FuncId} {sz bytes : Nat} (h : CloneOf P f sz bytes) (rows : List (List T)) (hb : rows.length * bytes <= 140737488355328) (hf : ∀ c ∈ rows.flatten, c.flat = true) : FC P f [.one (.sl sz rows)] [.one (.sl sz rows)] := by
 refine ⟨h.call, fun w vs fp tp hv hn => ?_⟩
 obtain ⟨hr, rfl, rfl⟩ := zcc hv
 obtain ⟨v, _, rfl, h1, rfl⟩ := hr
 refine (zw5 h rows hb h1).mono ?_
 rintro e w' ⟨v', rfl, hbel, hh⟩
 have hB : Bk (fun k => k < w.heap.size /\ k ∉ ([] : List Nat)) w w' := ⟨hbel.os, hbel.tape, hbel.output, hbel.size, fun k hk => hbel.block k hk.1⟩
 rcases hh with ⟨rfl, hr⟩ | ⟨g, cap, cur, ty, vs, rfl, p1, p2, p3, p4, p5, p6, p7, p8⟩
 ·subst hr
  refine ⟨[_], [], [], rfl, ⟨_, [], [], [], [], [], rfl, rfl, rfl, ⟨?_, rfl⟩, rfl, rfl, rfl⟩, List.nodup_nil, by simp, hB⟩
  unfold zat
  exact ⟨Option.none, 0, rfl, Nat.le_refl _, by simp, Or.inl ⟨rfl, rfl, rfl, rfl⟩⟩
 ·refine ⟨[_], [g], [g], rfl, ⟨_, [], [g], [], [g], [], rfl, rfl, rfl, ⟨?_, rfl⟩, rfl, rfl, rfl⟩, by simp, fun b hb => by rw [List.mem_singleton.1 hb]; exact Or.inr p1, hB⟩
  unfold zat
  refine ⟨_, cap, rfl, p3, p4, Or.inr ⟨g, cur, ty, [], rfl, rfl, p2, p5, ?_⟩⟩
  have hown := zad.own p7 hf
  exact zag.of_vals p8 (zas.keep hown fun b hb => by simp at hb) fun j u hu => qhk p6 j u hu
theorem zwm (a b : Str) : Op.bytesLess a b = decide (a < b) := bytesLess_eq a b
def Srt (xs : List Str) : Prop := xs.Pairwise (· < ·)
theorem zxd (a : Str) : ¬ a < a := List.lt_irrefl a
theorem zme {xs : List Str} (h : Srt xs) : xs.Nodup := List.Pairwise.imp (fun {a b} (h : a < b) (e : a = b) => zxd b (e ▸ h)) h
theorem qht {xs ys : List Str} (hx : Srt xs) (hy : Srt ys) (h : ∀ s, s ∈ xs ↔ s ∈ ys) : xs = ys := by
 have hp : xs.Perm ys := (List.perm_ext_iff_of_nodup (zme hx) (zme hy)).2 h
 exact hp.eq_of_pairwise (le := fun a b => a < b) (fun a b _ _ h1 h2 => absurd (List.lt_trans h1 h2) (zxd a)) hx hy
theorem qes {a b : Str} (h : a <= b) : a < b \/ a = b := by
 by_cases h1 : a < b
 ·exact Or.inl h1
 ·exact Or.inr (List.le_antisymm h (List.not_lt.1 h1))
theorem zv5 (xs : List Str) (s : Str) : s ∈ zdl xs ↔ s ∈ xs := (List.mergeSort_perm xs leB).mem_iff
theorem zwu {xs : List Str} (h : xs.Nodup) : Srt (zdl xs) := by
 have tr : ∀ a b c : List UInt8, leB a b = true -> leB b c = true -> leB a c = true := fun a b c h1 h2 => by simp only [leB, decide_eq_true_eq] at *; exact List.le_trans h1 h2
 have to : ∀ a b : List UInt8, (leB a b || leB b a) = true := fun a b => by simp only [leB, Bool.or_eq_true, decide_eq_true_eq]; exact List.le_total a b
 have hs := List.pairwise_mergeSort tr to xs
 have hn : (zdl xs).Nodup := (List.mergeSort_perm xs leB).nodup_iff.2 h
 refine (List.Pairwise.and hs hn).imp ?_
 rintro a b ⟨h1, h2⟩
 simp only [leB, decide_eq_true_eq] at h1
 exact (qes h1).resolve_right h2
def zqw (l : List Str) (s : Str) : List Str := if (l.dropWhile fun x => Op.bytesLess x s).head? = some s then l else (l.takeWhile fun x => Op.bytesLess x s) ++ [s] ++ l.dropWhile fun x => Op.bytesLess x s
theorem qbi (l : List Str) (s x : Str) : x ∈ zqw l s ↔ x = s \/ x ∈ l := by
 have e : l = (l.takeWhile fun x => Op.bytesLess x s) ++ l.dropWhile fun x => Op.bytesLess x s := (List.takeWhile_append_dropWhile).symm
 unfold zqw
 split
 ·rename_i h
  have : s ∈ l := by rw [e]; exact List.mem_append_right _ (List.mem_of_mem_head? h)
  exact ⟨Or.inr, fun h => h.elim (fun e => e ▸ this) id⟩
 ·conv => rhs; rw [e]
  simp only [List.mem_append, List.mem_singleton, or_assoc]
  constructor
  ·rintro (h | h | h)
   ·exact Or.inr (Or.inl h)
   ·exact Or.inl h
   ·exact Or.inr (Or.inr h)
  ·rintro (h | h | h)
   ·exact Or.inr (Or.inl h)
   ·exact Or.inl h
   ·exact Or.inr (Or.inr h)
theorem zji {l : List Str} {p : Str -> Bool} {x : Str} (h : (l.dropWhile p).head? = some x) : p x = false := by
 induction l with
 | nil => simp at h
 | cons a l ih =>
  rw [List.dropWhile_cons] at h
  split at h
  ·exact ih h
  ·rename_i hp; simp only [List.head?_cons, Option.some.injEq] at h; subst h; simpa using hp
theorem qdg {l : List Str} (h : Srt l) (s : Str) : Srt (zqw l s) := by
 unfold zqw
 split
 ·exact h
 ·rename_i hne
  have e : (l.takeWhile fun x => Op.bytesLess x s) ++ (l.dropWhile fun x => Op.bytesLess x s) = l := List.takeWhile_append_dropWhile
  have h' := h
  rw [<- e] at h'
  obtain ⟨h1, h2, h3⟩ := List.pairwise_append.1 h'
  have ht : ∀ a ∈ l.takeWhile fun x => Op.bytesLess x s, a < s := fun a ha => by
   have := List.all_takeWhile (l := l) (p := fun x => Op.bytesLess x s)
   have := List.all_eq_true.1 this a ha
   rw [zwm] at this
   exact of_decide_eq_true this
  have hd : ∀ a ∈ l.dropWhile fun x => Op.bytesLess x s, s < a := fun a ha => by
   cases hD : l.dropWhile fun x => Op.bytesLess x s with
   | nil => rw [hD] at ha; simp at ha
   | cons y ys =>
    have hy := zji (l := l) (p := fun x => Op.bytesLess x s) (x := y) (by rw [hD]; rfl)
    have hys : s < y := by
     have h0 : ¬ y < s := by rw [zwm] at hy; exact of_decide_eq_false hy
     rcases qes (List.not_lt.1 h0) with h | h
     ·exact h
     ·exact absurd (by rw [hD, h]; rfl) hne
    rw [hD] at ha h2
    rcases List.mem_cons.1 ha with rfl | ha
    ·exact hys
    ·exact List.lt_trans hys ((List.pairwise_cons.1 h2).1 a ha)
  rw [List.append_assoc]
  refine List.pairwise_append.2 ⟨h1, ?_, fun a ha b hb => ?_⟩
  ·exact List.pairwise_cons.2 ⟨hd, h2⟩
  ·rcases List.mem_cons.1 hb with rfl | hb
   ·exact ht a ha
   ·exact h3 a ha b hb
end Go.Proofs.YtemnhgmgeijkcaaGreat
namespace Go.Proofs
open Go.Shelf
set_option maxRecDepth 100000
def Tryz.lays190_ren : Go.Shelf.Ren := ⟨fun | 190 => 118 | 125 => 185 | 258 => 184 | 128 => 256 | 129 => 257 | 302 => 247 | 303 => 248 | 304 => 249 | 305 => 250 | 306 => 251 | 307 => 252 | 308 => 253 | 309 => 254 | 310 => 255 | 333 => 285 | 329 => 286 | 330 => 287 | 334 => 288 | 335 => 289 | 336 => 290 | 344 => 297 | n => n, fun | 31 => 100 | 9 => 9 | 3 => 3 | 46 => 152 | 0 => 0 | 51 => 227 | 53 => 229 | 4 => 4 | 183 => 219 | 182 => 218 | 131 => 224 | 5 => 5 | 218 => 241 | 222 => 245 | 228 => 252 | 229 => 253 | n => n, fun | n => n⟩
theorem Tryz.lays190 : Go.Proofs.Lays.n190 Tryz.prog Tryz.lays190_ren := {
 mixed := by kernel_rfl
 f125 := Tryz.func185.trans (congrArg some (by kernel_rfl))
 f128 := Tryz.func256.trans (congrArg some (by kernel_rfl))
 f129 := Tryz.func257.trans (congrArg some (by kernel_rfl))
 f190 := Tryz.func118.trans (congrArg some (by kernel_rfl))
 f258 := Tryz.func184.trans (congrArg some (by kernel_rfl))
 f302 := Tryz.func247.trans (congrArg some (by kernel_rfl))
 f303 := Tryz.func248.trans (congrArg some (by kernel_rfl))
 f304 := Tryz.func249.trans (congrArg some (by kernel_rfl))
 f305 := Tryz.func250.trans (congrArg some (by kernel_rfl))
 f306 := Tryz.func251.trans (congrArg some (by kernel_rfl))
 f307 := Tryz.func252.trans (congrArg some (by kernel_rfl))
 f308 := Tryz.func253.trans (congrArg some (by kernel_rfl))
 f309 := Tryz.func254.trans (congrArg some (by kernel_rfl))
 f310 := Tryz.func255.trans (congrArg some (by kernel_rfl))
 f329 := Tryz.func286.trans (congrArg some (by kernel_rfl))
 f330 := Tryz.func287.trans (congrArg some (by kernel_rfl))
 f333 := Tryz.func285.trans (congrArg some (by kernel_rfl))
 f334 := Tryz.func288.trans (congrArg some (by kernel_rfl))
 f335 := Tryz.func289.trans (congrArg some (by kernel_rfl))
 f336 := Tryz.func290.trans (congrArg some (by kernel_rfl))
 f344 := Tryz.func297.trans (congrArg some (by kernel_rfl))
 t0 := Tryz.underlying0
 a0 := Tryz.isAgg0
 z0 := Tryz.sizeOf0
 v0 := Tryz.zeroValue0
 t3 := Tryz.underlying3
 a3 := Tryz.isAgg3
 z3 := Tryz.sizeOf3
 v3 := Tryz.zeroValue3
 t4 := Tryz.underlying4
 a4 := Tryz.isAgg4
 z4 := Tryz.sizeOf4
 v4 := Tryz.zeroValue4
 t5 := Tryz.underlying5
 a5 := Tryz.isAgg5
 z5 := Tryz.sizeOf5
 v5 := Tryz.zeroValue5
 t9 := Tryz.underlying9
 a9 := Tryz.isAgg9
 z9 := Tryz.sizeOf9
 v9 := Tryz.zeroValue9
 t31 := Tryz.underlying100
 a31 := Tryz.isAgg100
 z31 := Tryz.sizeOf100
 v31 := Tryz.zeroValue100
 t46 := Tryz.underlying152
 a46 := Tryz.isAgg152
 z46 := Tryz.sizeOf152
 v46 := Tryz.zeroValue152
 t51 := Tryz.underlying227
 a51 := Tryz.isAgg227
 z51 := Tryz.sizeOf227
 v51 := Tryz.zeroValue227
 t53 := Tryz.underlying229
 a53 := Tryz.isAgg229
 z53 := Tryz.sizeOf229
 v53 := Tryz.zeroValue229
 t131 := Tryz.underlying224
 a131 := Tryz.isAgg224
 z131 := Tryz.sizeOf224
 v131 := Tryz.zeroValue224
 t182 := Tryz.underlying218
 a182 := Tryz.isAgg218
 z182 := Tryz.sizeOf218
 v182 := Tryz.zeroValue218
 t183 := Tryz.underlying219
 a183 := Tryz.isAgg219
 z183 := Tryz.sizeOf219
 v183 := Tryz.zeroValue219
 t218 := Tryz.underlying241
 a218 := Tryz.isAgg241
 z218 := Tryz.sizeOf241
 v218 := Tryz.zeroValue241
 t222 := Tryz.underlying245
 a222 := Tryz.isAgg245
 z222 := Tryz.sizeOf245
 v222 := Tryz.zeroValue245
 t228 := Tryz.underlying252
 a228 := Tryz.isAgg252
 z228 := Tryz.sizeOf252
 v228 := Tryz.zeroValue252
 t229 := Tryz.underlying253
 a229 := Tryz.isAgg253
 z229 := Tryz.sizeOf253
 v229 := Tryz.zeroValue253 }
def Tryz.lays194_ren : Go.Shelf.Ren := ⟨fun | 194 => 119 | n => n, fun | 31 => 100 | 9 => 9 | 3 => 3 | 4 => 4 | 0 => 0 | n => n, fun | n => n⟩
theorem Tryz.lays194 : Go.Proofs.Lays.n194 Tryz.prog Tryz.lays194_ren := {
 mixed := by kernel_rfl
 f194 := Tryz.func119.trans (congrArg some (by kernel_rfl))
 t0 := Tryz.underlying0
 a0 := Tryz.isAgg0
 z0 := Tryz.sizeOf0
 v0 := Tryz.zeroValue0
 t3 := Tryz.underlying3
 a3 := Tryz.isAgg3
 z3 := Tryz.sizeOf3
 v3 := Tryz.zeroValue3
 t4 := Tryz.underlying4
 a4 := Tryz.isAgg4
 z4 := Tryz.sizeOf4
 v4 := Tryz.zeroValue4
 t9 := Tryz.underlying9
 a9 := Tryz.isAgg9
 z9 := Tryz.sizeOf9
 v9 := Tryz.zeroValue9
 t31 := Tryz.underlying100
 a31 := Tryz.isAgg100
 z31 := Tryz.sizeOf100
 v31 := Tryz.zeroValue100 }
end Go.Proofs
namespace Go.Proofs.YtemnhgmgeijkcaaGreat
set_option linter.unusedSimpArgs false
set_option linter.unusedVariables false
set_option linter.unusedSectionVars false
set_option maxRecDepth 4000
open Go.RowKit
theorem Tm.wt_args {a : Tm} {n : Nat} (h : a.wt <= n) : a.args.length <= n /\ ∀ x ∈ a.args, x.wt <= n := by
 have e := Tm.wt_eq a
 refine ⟨by omega, fun x hx => ?_⟩
 have := zbk Tm.wt a.args x hx
 omega
theorem Fm.wt_parts {f : Fm} {n : Nat} (h : f.wt <= n) : f.atom.wt <= n /\ f.parts.length <= n /\ ∀ x ∈ f.parts, x.wt <= n := by
 have e := Fm.wt_eq f
 refine ⟨by omega, by omega, fun x hx => ?_⟩
 have := zbk Fm.wt f.parts x hx
 omega
set_option maxRecDepth 10000 in
theorem zn0 (xs : List Tm) (H : ∀ x ∈ xs, FC Tryz.prog 166 [tmD x] [tmD x]) (hs : xs.length <= 1048576) :
  FC Tryz.prog 231 [.one (tmS xs)] [.one (tmS xs)] := by
 by_cases h0 : xs = []
 ·subst h0
  refine zam Tryz.call231 Tryz.func231 rfl (by kernel_rfl) (za1 (by kernel_rfl)) ?_
  simp -implicitDefEqProofs only [go_sem, Tryz.results231]
 ·have hp : ((xs.length : Int) == 0) = false := by
   have : 0 < xs.length := List.length_pos_iff.2 h0
   simp; omega
  refine zam Tryz.call231 Tryz.func231 rfl (by kernel_rfl) (za1 (by kernel_rfl)) ?_
  simp -implicitDefEqProofs only [go_sem, Tryz.results231, hp]
  refine qcd (by simp -implicitDefEqProofs only [go_sem]; omega) ?_
  simp -implicitDefEqProofs only [go_sem]
  refine zaf (fun k : Nat => hd [(12, vT (tmS xs)), (13, vI xs.length), (3, .one (.ow 352 0)), (14, vI k)] [] [(352, ⟨true, 2, (xs.take k).map tmC ++ List.replicate (xs.length - k) [T.str [], T.sl 2 []], 0, true⟩)]) (fun k => k <= xs.length) (fun k => xs.length - k) 0 (zac ?_) ?_ ?_
  ·simp -implicitDefEqProofs only [go_sem]
   simp
  ·simp
  ·intro k hk
   by_cases hlt : k < xs.length
   ·have hlen : ((xs.take k).map tmC ++ List.replicate (xs.length - k) [T.str [], T.sl 2 []]).length = xs.length := by simp; omega
    have hlt2 : k < k + (xs.length - k) := by omega
    simp -implicitDefEqProofs only [go_sem, List.length_map, zai, hlt, zaa]
    refine callF (H xs[k] (List.getElem_mem hlt)) (by simp -implicitDefEqProofs only [go_sem, zaa, hlen, hlt, List.length_append, List.length_map, List.length_take, List.length_replicate, Nat.min_eq_left hk, hlt2]) ?_
    simp -implicitDefEqProofs only [go_sem, zaa, hlen, hlt, List.length_append, List.length_map, List.length_take, List.length_replicate, Nat.min_eq_left hk, hlt2]
    refine zha (by simp -implicitDefEqProofs only [go_sem]; simp) ?_
    simp -implicitDefEqProofs only [go_sem]
    rw [zao (by omega)]
    refine ⟨k + 1, by omega, by omega, zac ?_⟩
    simp -implicitDefEqProofs only [go_sem]
    have hf := zf2 ((xs.take k).map tmC) xs.length k [T.str [], T.sl 2 []] (tmC xs[k]) (by simp; omega) hlt (by simp [zaa])
    simp only [zaa] at hf
    rw [hf, List.take_succ_eq_append_getElem hlt, List.map_append, List.map_singleton]
    simp only [zaa]
   ·simp -implicitDefEqProofs only [go_sem, List.length_map, hlt]
    simp [List.take_of_length_le (show xs.length <= k by omega), show xs.length - k = 0 by omega]
theorem zpf (a : Tm) (H : FC Tryz.prog 231 [.one (tmS a.args)] [.one (tmS a.args)]) : FC Tryz.prog 166 [tmD a] [tmD a] := by
 simp only [tmD, zaa a]
 refine zam Tryz.call166 Tryz.func166 rfl (by kernel_rfl) (za1 (by kernel_rfl)) ?_
 simp -implicitDefEqProofs only [go_sem, Tryz.results166]
 refine drawn (by kernel_rfl) ?_
 simp -implicitDefEqProofs only [go_sem]
 refine za6 (H) (by simp -implicitDefEqProofs only [go_sem]) ?_
 simp -implicitDefEqProofs only [go_sem]
 kernel_rfl
theorem qda (a : Tm) (H : ∀ x ∈ a.args, FC Tryz.prog 155 [tmD x] [tmD x]) (hs : a.args.length <= 1048576) : FC Tryz.prog 155 [tmD a] [tmD a] := by
 simp only [tmD, zaa a]
 refine zam Tryz.call155 Tryz.func155 rfl (by kernel_rfl) (za1 (by kernel_rfl)) ?_
 simp -implicitDefEqProofs only [go_sem, Tryz.results155]
 refine zaf (fun k : Nat => hd [(1, .one (.bx 1 0)), (2, .one (.bx 2 0)), (3, .one (.bx 3 0)), (4, vI k)] [(1, [.t (.str a.name), .t (tmS a.args)]), (2, [.t (.str []), .nl 2]), (3, [.t (.str a.name), .ow 3000 0])] [(3000, ⟨true, 2, (a.args.take k).map tmC, 0, true⟩)]) (fun k => k <= a.args.length) (fun k => a.args.length - k) 0 (zac ?_) ?_ ?_
 ·simp -implicitDefEqProofs only [go_sem]
 ·simp
 ·intro k hk
  by_cases hlt : k < a.args.length
  ·simp -implicitDefEqProofs only [go_sem, hlt]
   refine drawn (by kernel_rfl) ?_
   have hmin : min k a.args.length <= 4294967295 := by omega
   simp -implicitDefEqProofs only [go_sem, zai, hlt, zaa]
   refine za6 (H a.args[k] (List.getElem_mem hlt)) (by simp -implicitDefEqProofs only [go_sem, zaa]) ?_
   simp -implicitDefEqProofs only [go_sem, zaa]
   refine zbo (by simp -implicitDefEqProofs only [go_sem]) ?_
   simp -implicitDefEqProofs only [go_sem]
   refine zmv true (by simp -implicitDefEqProofs only [go_sem, ne_eq, List.length_map, List.length_take, hmin]) ?_
   simp -implicitDefEqProofs only [go_sem, ne_eq, List.length_map, List.length_take, hmin]
   refine ⟨by kernel_rfl, k + 1, hlt, by omega, zac ?_⟩
   simp -implicitDefEqProofs only [go_sem]
   rw [zao (by omega), List.take_succ_eq_append_getElem hlt, List.map_append, List.map_singleton]
   simp only [zaa]
   trivial
  ·have ht : a.args.take k = a.args := List.take_of_length_le (by omega)
   simp -implicitDefEqProofs only [go_sem, hlt, ht]
theorem zjx : ∀ a : Tm, a.wt <= 1048576 -> FC Tryz.prog 166 [tmD a] [tmD a] :=
 zbd fun n xs ih hs => by
  obtain ⟨h1, h2⟩ := Tm.wt_args hs
  exact zpf (.mk n xs) (zn0 xs (fun x hx => ih x hx (h2 x hx)) h1)
theorem zqf : ∀ a : Tm, a.wt <= 1048576 -> FC Tryz.prog 155 [tmD a] [tmD a] :=
 zbd fun n xs ih hs => by
  obtain ⟨h1, h2⟩ := Tm.wt_args hs
  exact qda (.mk n xs) (fun x hx => ih x hx (h2 x hx)) h1
set_option maxHeartbeats 1000000 in
theorem qcj (a : Fm) (H : ∀ x ∈ a.parts, FC Tryz.prog 152 [fmD x] [fmD x]) (h0 : a.atom.wt <= 1048576) (hs : a.parts.length <= 1048576) : FC Tryz.prog 152 [fmD a] [fmD a] := by
 simp only [fmD, zab a]
 refine zam Tryz.call152 Tryz.func152 rfl (by kernel_rfl) (za1 (by kernel_rfl)) ?_
 simp -implicitDefEqProofs only [go_sem, Tryz.results152]
 refine drawn (by kernel_rfl) ?_
 simp -implicitDefEqProofs only [go_sem]
 refine za6 (zqf a.atom h0) (by simp -implicitDefEqProofs only [go_sem, zaa]) ?_
 simp -implicitDefEqProofs only [go_sem, zaa]
 refine ⟨by kernel_rfl, ?_⟩
 refine zaf (fun k : Nat => hd [(1, .one (.bx 1 0)), (2, .one (.bx 2 0)), (3, .one (.bx 3 0)), (4, vI k)] [(1, [.t (.int .i64 a.op), .t (.str a.atom.name), .t (tmS a.atom.args), .t (.str a.var), .t (fmS a.parts)]), (2, [.t (.int .i64 0), .t (.str []), .nl 2, .t (.str []), .nl 5]), (3, [.t (.int .i64 a.op), .t (.str a.atom.name), .ow 289 0, .t (.str a.var), .ow 3000 0])]
  [(289, ⟨true, 2, a.atom.args.map tmC, 0, true⟩), (3000, ⟨true, 5, (a.parts.take k).map fmC, 0, true⟩)]) (fun k => k <= a.parts.length) (fun k => a.parts.length - k) 0 (zac ?_) ?_ ?_
 ·simp -implicitDefEqProofs only [go_sem]
 ·simp
 ·intro k hk
  by_cases hlt : k < a.parts.length
  ·simp -implicitDefEqProofs only [go_sem, hlt]
   refine drawn (by kernel_rfl) ?_
   have hmin : min k a.parts.length <= 4294967295 := by omega
   simp -implicitDefEqProofs only [go_sem, zai, hlt, zab]
   refine za6 (H a.parts[k] (List.getElem_mem hlt)) (by simp -implicitDefEqProofs only [go_sem, zab]) ?_
   simp -implicitDefEqProofs only [go_sem, zab]
   refine zbo (by simp -implicitDefEqProofs only [go_sem]) ?_
   simp -implicitDefEqProofs only [go_sem]
   refine zmv true (by simp -implicitDefEqProofs only [go_sem, ne_eq, List.length_map, List.length_take, hmin]) ?_
   simp -implicitDefEqProofs only [go_sem, ne_eq, List.length_map, List.length_take, hmin]
   refine ⟨by kernel_rfl, k + 1, hlt, by omega, zac ?_⟩
   simp -implicitDefEqProofs only [go_sem]
   rw [zao (by omega), List.take_succ_eq_append_getElem hlt, List.map_append, List.map_singleton]
   simp only [zab]
   trivial
  ·have ht : a.parts.take k = a.parts := List.take_of_length_le (by omega)
   simp -implicitDefEqProofs only [go_sem, hlt, ht]
theorem zop : ∀ a : Fm, a.wt <= 1048576 -> FC Tryz.prog 152 [fmD a] [fmD a] :=
 zba fun o t v ps ih hs => by
  obtain ⟨h1, h2, h3⟩ := Fm.wt_parts hs
  exact qcj (.mk o t v ps) (fun x hx => ih x hx (h3 x hx)) h1 h2
end Go.Proofs.YtemnhgmgeijkcaaGreat
namespace Go.Proofs.YtemnhgmgeijkcaaGreat
set_option linter.unusedSimpArgs false
set_option linter.unusedVariables false
set_option linter.unusedSectionVars false
set_option maxRecDepth 4000
open Go.RowKit
theorem zic (ss : List Str) (hl : ss.length <= 1099511627776) : IC Tryz.prog 118 [] (.one (zb2 ss)) [] (.one (zb2 (zdl ss))) [] :=
 qft Tryz.call118 (fun blk off cap ss w h1 h2 h3 => Any.slices_Sort_string Tryz.lays190 blk off cap ss w h1 h2 h3) (fun p cap w => Any.slices_Sort_string_none Tryz.lays190 p cap w) ss (by omega)
theorem qgz {P : Program} {t : TypeId} {n b : Nat} {z : List C} (h1 : zbj P t = some n) (h2 : zde P t = some b) (h3 : zda P t = some z) (h4 : z.length = n) : ∃ i0 zv, P.info? t = some i0 /\ i0.zero = some zv /\ zv.cells.size = n /\ i0.size = n /\ i0.bytes = b := by
 unfold zbj at h1
 unfold zde at h2
 unfold zda at h3
 cases hi : P.info? t with
 | none => rw [hi] at h1; cases h1
 | some i =>
  rw [hi] at h1 h2 h3
  simp only [Option.map_some, Option.some.injEq] at h1 h2
  simp only [Option.bind_some] at h3
  cases hz : i.zero with
  | none => rw [hz] at h3; cases h3
  | some zv =>
   rw [hz] at h3
   simp only [Option.map_some, Option.some.injEq] at h3
   refine ⟨i, zv, rfl, hz, ?_, h1, h2⟩
   rw [<- h4, <- h3]; simp
set_option maxHeartbeats 1000000 in
theorem zt3 : CloneOf Tryz.prog 120 1 16 := by
 have t22 := Tryz.underlying100
 have q22 : ∀ (w : World) (a : Option Addr) (n c n' c' : Nat), (binOp .eql 100 (.slice a n c) (.slice none n' c')).run Tryz.prog w = .ok (.bool a.isNone) w := fun w a n c n' c' => Lib.run_eql_slice_nil w _ _ a n c n' c' t22
 have u22 : ∀ w, Sem.run Tryz.prog (underlying 100) w = .ok (TypeDesc.slice 9) w := run_underlying t22
 refine ⟨Tryz.call120, fun ad n c news w hl hn hbig hc h1 => ?_, fun n c w => ?_⟩
 ·have A : Aside (∀ j u, news[j]? = some u -> w.cell? (ad.add j) = some u) := hc
  clear hc
  obtain ⟨i0, z, hi, hz0, hzs, hz1, hz2⟩ := qgz (P := Tryz.prog) (t := 9) (n := 1) (b := 16) (z := [.t (.str [])]) (by kernel_rfl) (by kernel_rfl) (by kernel_rfl) rfl
  go_enter Tryz.func120, Tryz.ntmps120
  go_wp2_with (at_builtin; refine wpList_append_own _ rfl _ _ 100 rfl w.heap.size 9 i0 z 1 16 t22 hi hz0 hz1 hz2 hzs (by decide) _ _ _ rfl (World.ownsRow_made w #[] 0 (Nat.le_refl _) (Nat.zero_le _) (by simp)) ad n c news rfl ?qc1 ?qc2 ?qc3 ?qc4 ?qc5 ?qc6 ?_)
  case qc1 => exact hl
  case qc2 =>
   intro j u hj
   exact Lib.cell?_alloc_some _ (A.out j u hj)
  case qc3 => exact h1
  case qc4 => rw [Nat.zero_add]; exact hn
  case qc5 => rw [Nat.zero_add]; exact hbig
  case qc6 => simp
  intro v' w1 hown hgrow hnil
  go_wp2
  go_ret
  refine ⟨_, v', rfl, by simpa using hown, hnil, ?_⟩
  exact ((Below.refl _ w).alloc (Nat.le_refl _) _).grown hgrow (by simp) (by intro k hk; simp [Value.ownBlock] at hk; omega)
 ·go_enter Tryz.func120, Tryz.ntmps120
  go_wp2
  go_ret
  exact ⟨rfl, rfl⟩
theorem zuk (ss : List Str) : ∀ c ∈ (ss.map fun s => [T.str s]).flatten, c.flat = true := fun c hc => by
 rw [zew] at hc
 obtain ⟨s, _, rfl⟩ := List.mem_map.1 hc
 rfl
theorem zj6 (ss : List Str) (hs : ss.length <= 1099511627776) : FC Tryz.prog 120 [.one (zb2 ss)] [.one (zb2 ss)] :=
 qc0 zt3 _ (by simp; omega) (zuk ss)
abbrev qdu (xs : List Int) : T := .sl 1 (xs.map fun s => [.int .i64 s])
theorem ztk (xs : List Int) (s : Int) : FC Tryz.prog 258 [.one (qdu xs), iD s] [iD (qen xs s)] := by
 refine zdm (fun hw => ?_) Tryz.call258
 have hl : xs.length <= 9223372036854775807 := by simpa [zhp, wfT] using hw.1.1
 refine zam Tryz.call258 Tryz.func258 rfl (by kernel_rfl) (za1 (by kernel_rfl)) ?_
 simp -implicitDefEqProofs only [go_sem, Tryz.results258]
 refine zaf (fun k : Nat => hd [(0, vT (qdu xs)), (1, vT (.int .i64 s)), (7, vI xs.length), (8, vI k)] [] []) (fun k => k <= xs.length /\ s ∉ xs.take k) (fun k => xs.length - k) 0 (zac ?_) ?_ ?_
 ·simp -implicitDefEqProofs only [go_sem]
 ·simp
 ·intro k ⟨hk, hr⟩
  by_cases hlt : k < xs.length
  ·simp -implicitDefEqProofs only [go_sem, zai, hlt]
   refine ⟨fun h => ?_, fun h => ?_⟩
   ·have e : xs[k] = s := (beq_iff_eq.1 h).symm
    have hm : s ∈ xs := e ▸ List.getElem_mem hlt
    rw [qen, if_pos (by simpa using hm), zm1 hlt hr e]
   ·have e : xs[k] ≠ s := fun e => by simp [e] at h
    exact ⟨k + 1, ⟨hlt, zem hlt hr e⟩, by omega, zac (by simp -implicitDefEqProofs only [go_sem]; rw [zao (by omega)])⟩
  ·simp -implicitDefEqProofs only [go_sem, hlt]
   rw [List.take_of_length_le (by omega)] at hr
   rw [qen, if_neg (by simpa using hr)]
theorem zl3 (xs : List Int) (s : Int) : FC Tryz.prog 186 [.one (qdu xs), iD s] [bD (xs.contains s)] := by
 refine zam Tryz.call186 Tryz.func186 rfl (by kernel_rfl) (za1 (by kernel_rfl)) ?_
 simp -implicitDefEqProofs only [go_sem, Tryz.results186]
 refine callF (ztk xs s) (by simp -implicitDefEqProofs only [go_sem]) ?_
 simp -implicitDefEqProofs only [go_sem]
 unfold qen
 cases h : xs.contains s <;> simp
theorem zq8 (xs : List Str) (s : Str) : FC Tryz.prog 160 [.one (zb2 xs), sD s] [bD (xs.contains s)] := by
 refine zdm (fun hw => ?_) Tryz.call160
 have hl : xs.length <= 9223372036854775807 := by simpa [zhp, wfT] using hw.1.1
 refine zam Tryz.call160 Tryz.func160 rfl (by kernel_rfl) (za1 (by kernel_rfl)) ?_
 simp -implicitDefEqProofs only [go_sem, Tryz.results160]
 refine zaf (fun k : Nat => hd [(0, vT (zb2 xs)), (1, vT (.str s)), (5, vI k)] [] []) (fun k => k <= xs.length /\ s ∉ xs.take k) (fun k => xs.length - k) 0 (zac ?_) ?_ ?_
 ·simp -implicitDefEqProofs only [go_sem]
 ·simp
 ·intro k ⟨hk, hr⟩
  by_cases hlt : k < xs.length
  ·simp -implicitDefEqProofs only [go_sem, zai, hlt]
   refine ⟨fun h => ?_, fun h => ?_⟩
   ·have e : xs[k] = s := by simpa using h
    rw [List.contains_iff_mem.2 (e ▸ List.getElem_mem hlt)]
   ·have e : xs[k] ≠ s := by simpa using h
    exact ⟨k + 1, ⟨hlt, zem hlt hr e⟩, by omega, zac (by simp -implicitDefEqProofs only [go_sem]; rw [zao (by omega)])⟩
  ·simp -implicitDefEqProofs only [go_sem, hlt]
   rw [List.take_of_length_le (by omega)] at hr
   simpa using hr
theorem zdo {α : Type} {p : α -> Bool} : ∀ {l : List α} {k : Nat}, k <= l.length -> (∀ x ∈ l.take k, p x = true) -> (∀ h : k < l.length, p l[k] = false) -> l.takeWhile p = l.take k /\ l.dropWhile p = l.drop k
 | [], k, hk, _, _ => by simp
 | a :: l, 0, hk, _, h2 => by have := h2 (by simp); simp only [List.getElem_cons_zero] at this; simp [this]
 | a :: l, k + 1, hk, h1, h2 => by
  have ha := h1 a (by simp)
  obtain ⟨e1, e2⟩ := zdo (l := l) (k := k) (by simpa using hk) (fun x hx => h1 x (by simp [hx])) (fun h => h2 (by simpa using h))
  simp [ha, e1, e2]
theorem zvc {l : List Str} {s : Str} {k : Nat} (hk : k <= l.length) (h1 : ∀ x ∈ l.take k, Op.bytesLess x s = true) (h2 : ∀ h : k < l.length, Op.bytesLess l[k] s = false) : zqw l s = if (l.drop k).head? = some s then l else l.take k ++ [s] ++ l.drop k := by
 obtain ⟨e1, e2⟩ := zdo (p := fun x => Op.bytesLess x s) hk h1 h2
 unfold zqw
 rw [e1, e2]
theorem flR_of {rows : List (List T)} (h : ∀ r ∈ rows, r.all T.flat = true) : flR rows = true := by
 induction rows with
 | nil => rfl
 | cons r rs ih => unfold flR; rw [h r (by simp), ih fun r hr => h r (by simp [hr])]; rfl
theorem zbu (l : List Str) : flR (l.map fun s => [T.str s]) = true := flR_of fun r hr => by obtain ⟨s, _, rfl⟩ := List.mem_map.1 hr; rfl
theorem zbv (k : Nat) (l : List Str) : flR ((l.map fun s => [T.str s]).take k) = true := by rw [<- List.map_take]; exact zbu _
theorem zbz (k : Nat) (l : List Str) : flR ((l.map fun s => [T.str s]).drop k) = true := by rw [<- List.map_drop]; exact zbu _
theorem zep {α β : Type} (f : α -> β) (l : List α) : (l.map f).take l.length = l.map f := List.take_of_length_le (by simp)
theorem zze (l : List Str) (s : Str) (hl : l.length <= 2147483648) : GC Tryz.prog 274 [(true, .one (zb2 l)), (false, sD s)] [.one (zb2 (zqw l s))] := by
 refine zur Tryz.call274 Tryz.func274 rfl (by kernel_rfl) (by simp only [List.length_cons, List.length_nil, Tryz.ntmps274]; omega) (by simp [zby, T.isPin]) ?_
 simp -implicitDefEqProofs only [go_sem, Tryz.results274]
 refine zaf (fun k : Nat => hd [(0, .one (.ow 0 0)), (1, vT (.str s)), (5, vI k)] [] [(0, ⟨true, 1, l.map fun s => [.str s], 0, true⟩)]) (fun k => k <= l.length /\ ∀ x ∈ l.take k, Op.bytesLess x s = true) (fun k => l.length - k) 0 (zac ?_) ?_ ?_
 ·simp -implicitDefEqProofs only [go_sem]
 ·simp
 ·intro k ⟨hk, hr⟩
  have hm1 : min k l.length <= 4294967296 := by omega
  have hm2 : min k l.length <= 4294967295 := by omega
  have hm3 : min k l.length + 1 + (l.length - k) <= 4294967296 := by omega
  by_cases hlt : k < l.length
  ·have hnx : ∀ {b}, Op.bytesLess l[k] s = b -> b = true -> ∀ x ∈ l.take (k + 1), Op.bytesLess x s = true := fun {b} e hb x hx => by
    rw [List.take_succ_eq_append_getElem hlt] at hx
    rcases List.mem_append.1 hx with hx | hx
    ·exact hr x hx
    ·rw [List.mem_singleton.1 hx, e, hb]
   simp -implicitDefEqProofs only [go_sem, zai, hlt]
   refine ⟨fun h => ⟨k + 1, ⟨hlt, hnx rfl h⟩, by omega, zac (by simp -implicitDefEqProofs only [go_sem]; rw [zao (by omega)])⟩, fun h => ?_⟩
   have hp := zvc hk hr (fun _ => h)
   have hh : (l.drop k).head? = some l[k] := by rw [List.head?_drop, List.getElem?_eq_getElem hlt]
   refine ⟨fun h2 => ?_, fun h2 => ?_⟩
   ·rw [hp, if_pos (by rw [hh]; simpa using h2)]
   ·rw [if_neg (by rw [hh]; simpa using h2)] at hp
    refine frzD 0 ?_
    simp -implicitDefEqProofs only [go_sem]
    refine drawn (by kernel_rfl) ?_
    simp -implicitDefEqProofs only [go_sem, hk]
    refine zbo (by simp -implicitDefEqProofs only [go_sem, hk]) ?_
    simp -implicitDefEqProofs only [go_sem, hk]
    refine zmv true (by simp -implicitDefEqProofs only [go_sem, hk, ne_eq, Nat.zero_add, hm1, hm2, hm3, zbv, zbz, zep, List.length_drop, List.length_take, List.length_append, List.length_map]) ?_
    simp -implicitDefEqProofs only [go_sem, hk, ne_eq, Nat.zero_add, hm1, hm2, hm3, zbv, zbz, zep, List.length_drop, List.length_take, List.length_append, List.length_map]
    refine zbo (by simp -implicitDefEqProofs only [go_sem, hk]) ?_
    simp -implicitDefEqProofs only [go_sem, hk]
    refine zmv true (by simp -implicitDefEqProofs only [go_sem, hk, ne_eq, Nat.zero_add, hm1, hm2, hm3, zbv, zbz, zep, List.length_drop, List.length_take, List.length_append, List.length_map]) ?_
    simp -implicitDefEqProofs only [go_sem, hk, ne_eq, Nat.zero_add, hm1, hm2, hm3, zbv, zbz, zep, List.length_drop, List.length_take, List.length_append, List.length_map]
    refine zmv true (by simp -implicitDefEqProofs only [go_sem, hk, ne_eq, Nat.zero_add, hm1, hm2, hm3, zbv, zbz, zep, List.length_drop, List.length_take, List.length_append, List.length_map]) ?_
    simp -implicitDefEqProofs only [go_sem, hk, ne_eq, Nat.zero_add, hm1, hm2, hm3, zbv, zbz, zep, List.length_drop, List.length_take, List.length_append, List.length_map]
    refine ⟨by kernel_rfl, ?_⟩
    rw [hp]; simp
  ·simp -implicitDefEqProofs only [go_sem, hlt]
   have hp := zvc hk hr (fun h => absurd h hlt)
   rw [if_neg (by rw [List.drop_of_length_le (by omega)]; simp)] at hp
   refine frzD 0 ?_
   simp -implicitDefEqProofs only [go_sem]
   refine drawn (by kernel_rfl) ?_
   simp -implicitDefEqProofs only [go_sem, hk]
   refine zbo (by simp -implicitDefEqProofs only [go_sem, hk]) ?_
   simp -implicitDefEqProofs only [go_sem, hk]
   refine zmv true (by simp -implicitDefEqProofs only [go_sem, hk, ne_eq, Nat.zero_add, hm1, hm2, hm3, zbv, zbz, zep, List.length_drop, List.length_take, List.length_append, List.length_map]) ?_
   simp -implicitDefEqProofs only [go_sem, hk, ne_eq, Nat.zero_add, hm1, hm2, hm3, zbv, zbz, zep, List.length_drop, List.length_take, List.length_append, List.length_map]
   refine zbo (by simp -implicitDefEqProofs only [go_sem, hk]) ?_
   simp -implicitDefEqProofs only [go_sem, hk]
   refine zmv true (by simp -implicitDefEqProofs only [go_sem, hk, ne_eq, Nat.zero_add, hm1, hm2, hm3, zbv, zbz, zep, List.length_drop, List.length_take, List.length_append, List.length_map]) ?_
   simp -implicitDefEqProofs only [go_sem, hk, ne_eq, Nat.zero_add, hm1, hm2, hm3, zbv, zbz, zep, List.length_drop, List.length_take, List.length_append, List.length_map]
   refine zmv true (by simp -implicitDefEqProofs only [go_sem, hk, ne_eq, Nat.zero_add, hm1, hm2, hm3, zbv, zbz, zep, List.length_drop, List.length_take, List.length_append, List.length_map]) ?_
   simp -implicitDefEqProofs only [go_sem, hk, ne_eq, Nat.zero_add, hm1, hm2, hm3, zbv, zbz, zep, List.length_drop, List.length_take, List.length_append, List.length_map]
   refine ⟨by kernel_rfl, ?_⟩
   rw [hp]; simp
end Go.Proofs.YtemnhgmgeijkcaaGreat
namespace Go.Proofs.YtemnhgmgeijkcaaGreat
set_option linter.unusedSimpArgs false
set_option linter.unusedVariables false
set_option linter.unusedSectionVars false
set_option maxRecDepth 4000
open Go.RowKit
theorem qg4 {b : UInt8} (h1 : decide ((b.toNat : Int) < 65) = false) (h2 : decide ((90 : Int) < b.toNat) = false) : zjf b = true := by
 simp [zjf] at *; omega
theorem zz8 {b : UInt8} (h1 : decide ((b.toNat : Int) < 65) = true) : zjf b = false := by
 simp [zjf] at *; omega
theorem qds {b : UInt8} (h2 : decide ((90 : Int) < b.toNat) = true) : zjf b = false := by
 simp [zjf] at *; omega
theorem qcz {b : UInt8} (h1 : decide ((b.toNat : Int) < 97) = false) (h2 : decide ((122 : Int) < b.toNat) = false) : ze2 b = true := by
 simp [ze2] at *; omega
theorem zvk {b : UInt8} (h1 : decide ((b.toNat : Int) < 97) = true) : ze2 b = false := by
 simp [ze2] at *; omega
theorem zv9 {b : UInt8} (h2 : decide ((122 : Int) < b.toNat) = true) : ze2 b = false := by
 simp [ze2] at *; omega
theorem zq7 {s : Str} (h : 0 < s.length) : zoo s = (zjf (s.getD 0 0) && (s.drop 1).all zlj) := by
 cases s
 ·exact absurd h (by simp)
 ·rfl
theorem zmp {s : Str} (h : 0 < s.length) : zix s = (ze2 (s.getD 0 0) && (s.drop 1).all zld) := by
 cases s
 ·exact absurd h (by simp)
 ·rfl
theorem zjc (s : Str) : FC Tryz.prog 225 [sD s] [bD (za2 s)] := by
 refine zdm (fun hw => ?_) Tryz.call225
 have hl : s.length <= 9223372036854775807 := by simpa [zhp, wfT] using hw.1
 refine zam Tryz.call225 Tryz.func225 rfl (by kernel_rfl) (za1 (by kernel_rfl)) ?_
 simp -implicitDefEqProofs only [go_sem, Tryz.results225]
 refine callF (qd8 s.length 1 4) (by simp -implicitDefEqProofs only [go_sem]) ?_
 simp -implicitDefEqProofs only [go_sem]
 by_cases hb : inB s.length 1 4 = true
 ·have hp : 0 < s.length := by simp [inB] at hb; omega
  have hp' : (0 : Int) < s.length := by omega
  have he := zq7 hp
  refine ⟨fun h => ⟨hp', fun h1 => ⟨hp', fun h2 => ?_, fun h2 => ?_⟩, fun h1 => ?_⟩, fun h => by simp [hb] at h⟩
  ·rw [za2, he, qds h2]; rfl
  ·rw [qg4 h1 h2, Bool.true_and] at he
   refine zaf (fun k : Nat => hd [(0, vT (.str s)), (3, vI k)] [] []) (fun k => k <= s.length /\ zoo s = (s.drop k).all zlj) (fun k => s.length - k) 1 (zac ?_) ?_ ?_
   ·simp -implicitDefEqProofs only [go_sem]
   ·exact ⟨hp, he⟩
   ·intro k ⟨hk, hr⟩
    by_cases hlt : k < s.length
    ·have hg : s.getD k 0 = s[k] := by simp [List.getD, hlt]
     rw [List.drop_eq_getElem_cons hlt, List.all_cons] at hr
     simp -implicitDefEqProofs only [go_sem, hlt]
     simp only [hg]
     refine callF (zm6 s[k]) (by simp -implicitDefEqProofs only [go_sem]) ?_
     simp -implicitDefEqProofs only [go_sem]
     refine ⟨fun h => ?_, fun h => ⟨k + 1, ⟨hlt, ?_⟩, by omega, zac (by simp -implicitDefEqProofs only [go_sem]; rw [zao (by omega)])⟩⟩
     ·have : zlj s[k] = false := by simpa using h
      rw [za2, hr, this]; rfl
     ·have : zlj s[k] = true := by simpa using h
      rw [hr, this]; rfl
    ·simp -implicitDefEqProofs only [go_sem, hlt]
     rw [za2, hr, List.drop_of_length_le (by omega), hb]; rfl
  ·rw [za2, he, zz8 h1]; rfl
 ·have hb' : inB s.length 1 4 = false := by simpa using hb
  refine ⟨fun h => by simp [hb'] at h, fun h => ?_⟩
  rw [za2, hb', Bool.and_false]
set_option maxHeartbeats 1000000 in
theorem zj8 (s : Str) : FC Tryz.prog 240 [sD s] [bD (zcg s)] := by
 refine zdm (fun hw => ?_) Tryz.call240
 have hl : s.length <= 9223372036854775807 := by simpa [zhp, wfT] using hw.1
 refine zam Tryz.call240 Tryz.func240 rfl (by kernel_rfl) (za1 (by kernel_rfl)) ?_
 simp -implicitDefEqProofs only [go_sem, Tryz.results240]
 refine callF (qd8 s.length 1 6) (by simp -implicitDefEqProofs only [go_sem]) ?_
 simp -implicitDefEqProofs only [go_sem]
 by_cases hb : inB s.length 1 6 = true
 ·have hp : 0 < s.length := by simp [inB] at hb; omega
  have hp' : (0 : Int) < s.length := by omega
  have he := zmp hp
  refine ⟨fun h => ⟨hp', fun h1 => ⟨hp', fun h2 => ?_, fun h2 => ?_⟩, fun h1 => ?_⟩, fun h => by simp [hb] at h⟩
  ·rw [zcg, he, zv9 h2]; rfl
  ·rw [qcz h1 h2, Bool.true_and] at he
   have leaf : ∀ l, l ∈ zqh -> (s == l) = true -> T.bool false = T.bool (zcg s) := fun l hl e => by
    have : zqh.contains s = true := by rw [List.contains_iff_mem, beq_iff_eq.1 e]; exact hl
    rw [zcg, this, Bool.not_true, Bool.and_false]
   refine ⟨fun e => ⟨fun _ => leaf _ (by simp [zqh]) e, fun e' => absurd (e.symm.trans e') (by simp)⟩, fun n1 => ?_⟩
   refine ⟨fun e => ⟨fun _ => leaf _ (by simp [zqh]) e, fun e' => absurd (e.symm.trans e') (by simp)⟩, fun n2 => ?_⟩
   refine ⟨fun e => ⟨fun _ => leaf _ (by simp [zqh]) e, fun e' => absurd (e.symm.trans e') (by simp)⟩, fun n3 => ?_⟩
   refine ⟨fun e => ⟨fun _ => leaf _ (by simp [zqh]) e, fun e' => absurd (e.symm.trans e') (by simp)⟩, fun n4 => ?_⟩
   refine ⟨fun e => ⟨fun _ => leaf _ (by simp [zqh]) e, fun e' => absurd (e.symm.trans e') (by simp)⟩, fun n5 => ?_⟩
   refine ⟨fun e => ⟨fun _ => leaf _ (by simp [zqh]) e, fun e' => absurd (e.symm.trans e') (by simp)⟩, fun n6 => ?_⟩
   refine ⟨fun e => ⟨fun _ => leaf _ (by simp [zqh]) e, fun e' => absurd (e.symm.trans e') (by simp)⟩, fun n7 => ?_⟩
   refine ⟨fun e => leaf _ (by simp [zqh]) e, fun n8 => ?_⟩
   have hnc : zqh.contains s = false := by
    simp only [beq_eq_false_iff_ne, ne_eq] at n1 n2 n3 n4 n5 n6 n7 n8
    rw [Bool.eq_false_iff, ne_eq, List.contains_iff_mem]
    simp only [zqh, List.mem_cons, List.not_mem_nil, or_false, not_or]
    exact ⟨n1, n2, n3, n4, n5, n6, n7, n8⟩
   refine zaf (fun k : Nat => hd [(0, vT (.str s)), (3, vI k)] [] []) (fun k => k <= s.length /\ zix s = (s.drop k).all zld) (fun k => s.length - k) 1 (zac ?_) ?_ ?_
   ·simp -implicitDefEqProofs only [go_sem]
   ·exact ⟨hp, he⟩
   ·intro k ⟨hk, hr⟩
    by_cases hlt : k < s.length
    ·have hg : s.getD k 0 = s[k] := by simp [List.getD, hlt]
     rw [List.drop_eq_getElem_cons hlt, List.all_cons] at hr
     simp -implicitDefEqProofs only [go_sem, hlt]
     simp only [hg]
     refine callF (zm6 s[k]) (by simp -implicitDefEqProofs only [go_sem]) ?_
     simp -implicitDefEqProofs only [go_sem]
     simp only [hg]
     refine ⟨fun h => ⟨hlt, fun h' => ?_, fun h' => ⟨k + 1, ⟨hlt, ?_⟩, by omega, zac (by simp -implicitDefEqProofs only [go_sem]; rw [zao (by omega)])⟩⟩, fun h => ⟨k + 1, ⟨hlt, ?_⟩, by omega, zac (by simp -implicitDefEqProofs only [go_sem]; rw [zao (by omega)])⟩⟩
     ·have : zld s[k] = false := by
       simp [zld] at h ⊢
       refine ⟨h, fun e => ?_⟩
       rw [e] at h'
       simp at h'
      rw [zcg, hr, this]; rfl
     ·have : zld s[k] = true := by
       have := qgq (b := s[k]) (n := 95) (by omega)
       simp [zld] at h' ⊢
       right
       simpa [h'] using this
      rw [hr, this]; rfl
     ·have : zld s[k] = true := by simp [zld]; simp at h; simp [h]
      rw [hr, this]; rfl
    ·simp -implicitDefEqProofs only [go_sem, hlt]
     rw [zcg, hr, List.drop_of_length_le (by omega), hb, hnc]; rfl
  ·rw [zcg, he, zvk h1]; rfl
 ·have hb' : inB s.length 1 6 = false := by simpa using hb
  refine ⟨fun h => by simp [hb'] at h, fun h => ?_⟩
  rw [zcg, hb', Bool.and_false]; rfl
end Go.Proofs.YtemnhgmgeijkcaaGreat
namespace Go.Proofs.YtemnhgmgeijkcaaGreat
set_option linter.unusedSimpArgs false
set_option linter.unusedVariables false
set_option linter.unusedSectionVars false
set_option maxRecDepth 4000
open Go.RowKit
def Tm.nodes : Tm -> Nat := Tm.fold fun _ _ rs => 1 + rs.sum
theorem Tm.nodes_eq (a : Tm) : a.nodes = 1 + (a.args.map Tm.nodes).sum := Tm.fold_eq _ a
def Tm.depth : Tm -> Nat := Tm.fold fun _ _ rs => rs.foldl max 0 + 1
theorem Tm.depth_eq (a : Tm) : a.depth = (a.args.map Tm.depth).foldl max 0 + 1 := Tm.fold_eq _ a
theorem zff : ∀ a : Tm, a.nodes <= 1 + a.wt := by
 refine zbd fun n xs ih => ?_
 rw [Tm.nodes_eq, Tm.wt_eq]
 show 1 + (xs.map Tm.nodes).sum <= 1 + (n.length + xs.length + (xs.map Tm.wt).sum)
 have : (xs.map Tm.nodes).sum <= xs.length + (xs.map Tm.wt).sum := by
  clear n
  induction xs with
  | nil => simp
  | cons x xs ih2 =>
   have h1 := ih x (by simp)
   have h2 := ih2 fun y hy => ih y (by simp [hy])
   simp only [List.map_cons, List.sum_cons, List.length_cons]
   omega
 omega
theorem zhd {B : Nat} : ∀ (xs : List Nat) (m : Nat), m <= B -> (∀ x ∈ xs, x <= B) -> xs.foldl max m <= B
 | [], m, h, _ => h
 | x :: xs, m, h, h2 => zhd xs (max m x) (by have := h2 x (by simp); omega) fun y hy => h2 y (by simp [hy])
theorem zi7 : ∀ a : Tm, a.depth <= a.nodes := by
 refine zbd fun n xs ih => ?_
 rw [Tm.nodes_eq, Tm.depth_eq]
 show (xs.map Tm.depth).foldl max 0 + 1 <= 1 + (xs.map Tm.nodes).sum
 have := zhd (B := (xs.map Tm.nodes).sum) (xs.map Tm.depth) 0 (by omega) fun d hd => by
  obtain ⟨x, hx, rfl⟩ := List.mem_map.1 hd
  exact Nat.le_trans (ih x hx) (zbk Tm.nodes xs x hx)
 omega
def szL (lim : Int) : Int -> List Int -> Int
 | n, [] => n
 | n, r :: rs => if n > lim then n else szL lim (n + r) rs
def ze3 : Tm -> Int := Tm.fold fun _ _ rs => szL 30 1 rs
theorem zsf (a : Tm) : ze3 a = szL 30 1 (a.args.map ze3) := Tm.fold_eq _ a
theorem zkt {α : Type} (f : α -> Int) (g : α -> Nat) (lim : Int) : ∀ (xs : List α) (n : Int), 0 <= n -> (∀ x ∈ xs, 1 <= f x /\ f x <= g x /\ (f x <= lim -> f x = g x)) -> szL lim n (xs.map f) <= n + (xs.map g).sum /\ n <= szL lim n (xs.map f) /\ (szL lim n (xs.map f) <= lim -> szL lim n (xs.map f) = n + (xs.map g).sum)
 | [], n, _, _ => by simp [szL]
 | x :: xs, n, hn, h => by
  obtain ⟨h1, h2, h3⟩ := h x (by simp)
  obtain ⟨k1, k2, k3⟩ := zkt f g lim xs (n + f x) (by omega) fun y hy => h y (by simp [hy])
  simp only [List.map_cons, szL, List.sum_cons]
  split
  ·refine ⟨by omega, by omega, fun hh => by omega⟩
  ·refine ⟨by omega, by omega, fun hh => ?_⟩
   have := k3 hh
   rw [this]
   have : f x = g x := h3 (by omega)
   omega
theorem zjs : ∀ a : Tm, 1 <= ze3 a /\ ze3 a <= a.nodes /\ (ze3 a <= 30 -> ze3 a = a.nodes) := by
 refine zbd fun n xs ih => ?_
 rw [zsf, Tm.nodes_eq]
 show 1 <= szL 30 1 (xs.map ze3) /\ szL 30 1 (xs.map ze3) <= ((1 + (xs.map Tm.nodes).sum : Nat) : Int) /\ _
 obtain ⟨k1, k2, k3⟩ := zkt ze3 Tm.nodes 30 xs 1 (by omega) ih
 refine ⟨k2, by omega, fun h => ?_⟩
 have := k3 h
 show szL 30 1 (xs.map ze3) = _
 rw [this]; show _ = ((1 + (xs.map Tm.nodes).sum : Nat) : Int); omega
theorem qbf (a : Tm) : decide (ze3 a <= 30) = decide (a.nodes <= 30) := by
 obtain ⟨h1, h2, h3⟩ := zjs a
 rw [decide_eq_decide]
 exact ⟨fun h => by have := h3 h; omega, fun h => by omega⟩
def qbw {α : Type} (f : α -> Nat) (xs : List α) (k : Nat) : Nat := ((xs.drop k).map f).sum
theorem zgr {α : Type} (f : α -> Nat) (xs : List α) : qbw f xs 0 = (xs.map f).sum := by simp [qbw]
theorem zl9 {α : Type} (f : α -> Nat) (xs : List α) (k : Nat) (h : k < xs.length) : qbw f xs k = f xs[k] + qbw f xs (k + 1) := by
 unfold qbw
 rw [List.drop_eq_getElem_cons h, List.map_cons, List.sum_cons]
set_option maxHeartbeats 400000 in
theorem qge (a : Tm) (hs : a.wt <= 1099511627776) (H : ∀ x ∈ a.args, FC Tryz.prog 259 [tmD x] [iD (ze3 x)]) : FC Tryz.prog 259 [tmD a] [iD (ze3 a)] := by
 refine zdm (fun hw => ?_) Tryz.call259
 have hl : a.args.length <= 9223372036854775807 := by rw [Tm.wt_eq] at hs; omega
 have hn := zff a
 have hN := a.nodes_eq
 simp only [tmD, zaa]
 refine zam Tryz.call259 Tryz.func259 rfl (by kernel_rfl) (za1 (by kernel_rfl)) ?_
 simp -implicitDefEqProofs only [go_sem, Tryz.results259]
 refine zaf (fun p : Nat × Int => hd [(3, vI p.2), (7, vT (tmS a.args)), (8, vI a.args.length), (9, vI p.1)] [] []) (fun p => p.1 <= a.args.length /\ ze3 a = szL 30 p.2 ((a.args.drop p.1).map ze3) /\ 1 <= p.2 /\ p.2 + qbw Tm.nodes a.args p.1 <= a.nodes) (fun p => a.args.length - p.1) (0, 1) (zac ?_) ?_ ?_
 ·simp -implicitDefEqProofs only [go_sem]
 ·exact ⟨by simp, by rw [zsf]; rfl, by omega, by rw [zgr]; omega⟩
 ·intro ⟨k, n⟩ ⟨hk, hr, h1, h2⟩
  simp only at hk hr h1 h2
  by_cases hlt : k < a.args.length
  ·have hd := zl9 Tm.nodes a.args k hlt
   obtain ⟨s1, s2, s3⟩ := zjs a.args[k]
   rw [List.drop_eq_getElem_cons hlt, List.map_cons, szL] at hr
   simp -implicitDefEqProofs only [go_sem, zai, hlt, zaa]
   refine ⟨fun h => ?_, fun h => ?_⟩
   ·rw [hr, if_pos (by simpa using h)]
   ·refine callF (H a.args[k] (List.getElem_mem hlt)) (by simp -implicitDefEqProofs only [go_sem, zaa]) ?_
    simp -implicitDefEqProofs only [go_sem, zaa]
    rw [if_neg (by simpa using h)] at hr
    exact ⟨(k + 1, n + ze3 a.args[k]), ⟨hlt, hr, by simp only; omega, by simp only; omega⟩, by simp only; omega, zac (by simp -implicitDefEqProofs only [go_sem]; rw [zao (by omega), zbp (by omega) (by omega)]; exact ⟨rfl, rfl⟩)⟩
  ·simp -implicitDefEqProofs only [go_sem, hlt]
   rw [hr, List.drop_of_length_le (by omega)]; rfl
theorem size_c : ∀ a : Tm, a.wt <= 1099511627776 -> FC Tryz.prog 259 [tmD a] [iD (ze3 a)] :=
 zbd fun n xs ih hs => qge (.mk n xs) hs fun x hx => ih x hx (by
  have := Tm.wt_eq (.mk n xs)
  have := zbk Tm.wt xs x hx
  simp only [Tm.args] at *; omega)
set_option maxHeartbeats 400000 in
theorem qb1 (a : Tm) (hs : a.wt <= 1099511627776) (H : ∀ x ∈ a.args, FC Tryz.prog 260 [tmD x] [iD x.depth]) : FC Tryz.prog 260 [tmD a] [iD a.depth] := by
 have hl : a.args.length <= 9223372036854775807 := by rw [Tm.wt_eq] at hs; omega
 have hn := zff a
 have hdn := zi7 a
 have hD := a.depth_eq
 simp only [tmD, zaa]
 refine zam Tryz.call260 Tryz.func260 rfl (by kernel_rfl) (za1 (by kernel_rfl)) ?_
 simp -implicitDefEqProofs only [go_sem, Tryz.results260]
 refine zaf (fun p : Nat × Nat => hd [(3, vI p.2), (7, vT (tmS a.args)), (8, vI a.args.length), (9, vI p.1)] [] []) (fun p => p.1 <= a.args.length /\ a.depth = ((a.args.drop p.1).map Tm.depth).foldl max p.2 + 1) (fun p => a.args.length - p.1) (0, 0) (zac ?_) ?_ ?_
 ·simp -implicitDefEqProofs only [go_sem]
 ·exact ⟨by simp, hD⟩
 ·intro ⟨k, n⟩ ⟨hk, hr⟩
  simp only at hk hr
  by_cases hlt : k < a.args.length
  ·rw [List.drop_eq_getElem_cons hlt, List.map_cons, List.foldl_cons] at hr
   simp -implicitDefEqProofs only [go_sem, zai, hlt, zaa]
   refine callF (H a.args[k] (List.getElem_mem hlt)) (by simp -implicitDefEqProofs only [go_sem, zaa]) ?_
   simp -implicitDefEqProofs only [go_sem, zaa]
   exact ⟨(k + 1, max n a.args[k].depth), ⟨hlt, hr⟩, by simp only; omega, zac (by simp -implicitDefEqProofs only [go_sem]; rw [zao (by omega)]; exact ⟨by congr 1; omega, rfl⟩)⟩
  ·simp -implicitDefEqProofs only [go_sem, hlt]
   rw [List.drop_of_length_le (by omega)] at hr
   simp only [List.map_nil, List.foldl_nil] at hr
   rw [hr, zao (by omega)]
theorem qf7 : ∀ a : Tm, a.wt <= 1099511627776 -> FC Tryz.prog 260 [tmD a] [iD a.depth] :=
 zbd fun n xs ih hs => qb1 (.mk n xs) hs fun x hx => ih x hx (by
  have := Tm.wt_eq (.mk n xs)
  have := zbk Tm.wt xs x hx
  simp only [Tm.args] at *; omega)
def zck (a : Tm) : Bool := decide (a.nodes <= 30) && decide (a.depth <= 8)
theorem zn3 (a : Tm) (hs : a.wt <= 1099511627776) : FC Tryz.prog 188 [tmD a] [bD (zck a)] := by
 simp only [tmD, zaa]
 refine zam Tryz.call188 Tryz.func188 rfl (by kernel_rfl) (za1 (by kernel_rfl)) ?_
 simp -implicitDefEqProofs only [go_sem, Tryz.results188]
 refine callF (size_c a hs) (by simp -implicitDefEqProofs only [go_sem, zaa]) ?_
 simp -implicitDefEqProofs only [go_sem, zaa]
 rw [qbf]
 refine ⟨fun h => ?_, fun h => ?_⟩
 ·refine callF (qf7 a hs) (by simp -implicitDefEqProofs only [go_sem, zaa]) ?_
  simp -implicitDefEqProofs only [go_sem, zaa]
  rw [zck, h, Bool.true_and]
  congr 1
  rw [decide_eq_decide]; omega
 ·rw [zck, h]; rfl
end Go.Proofs.YtemnhgmgeijkcaaGreat
namespace Go.Proofs.YtemnhgmgeijkcaaGreat
set_option linter.unusedSimpArgs false
set_option linter.unusedVariables false
set_option linter.unusedSectionVars false
set_option maxRecDepth 4000
open Go.RowKit
theorem qcu (σ : St) (caps : List T) : VDs σ (caps.map fun t => .one (.t t)) (caps.map .one) = True := by
 induction caps with
 | nil => simp [VDs]
 | cons t ts ih => rw [List.map_cons, List.map_cons, zq4, ih]; simp [qev, CT_t]
attribute [go_sem] qcu
def qd2 {α : Type} (xs : List α) (p : α -> Bool) : Int := if xs.any p then xs.findIdx p else -1
theorem zj4 {α : Type} {xs : List α} {p : α -> Bool} {k : Nat} (hk : k < xs.length) (hn : ∀ x ∈ xs.take k, p x = false) (h : p xs[k] = true) : qd2 xs p = k := by
 have ha : xs.any p = true := List.any_eq_true.2 ⟨xs[k], List.getElem_mem hk, h⟩
 have hf : xs.findIdx p = k := (List.findIdx_eq hk).2 ⟨h, fun j hj => hn _ (by
  rw [List.mem_take_iff_getElem]; exact ⟨j, by omega, rfl⟩)⟩
 rw [qd2, if_pos ha, hf]
theorem zoe {α : Type} {xs : List α} {p : α -> Bool} (hn : ∀ x ∈ xs, p x = false) : qd2 xs p = -1 := by
 have ha : xs.any p = false := by rw [List.any_eq_false]; exact fun x hx => by simp [hn x hx]
 rw [qd2, ha]; rfl
theorem zsa {α : Type} (xs : List α) (p : α -> Bool) : decide (0 <= qd2 xs p) = xs.any p := by
 unfold qd2
 cases xs.any p <;> simp
theorem zgc {α : Type} {xs : List α} {p : α -> Bool} {k : Nat} (hk : k < xs.length) (hn : ∀ x ∈ xs.take k, p x = false) (h : p xs[k] = false) : ∀ x ∈ xs.take (k + 1), p x = false := by
 rw [List.take_succ_eq_append_getElem hk]
 intro x hx
 rcases List.mem_append.1 hx with hx | hx
 ·exact hn x hx
 ·rw [List.mem_singleton.1 hx]; exact h
theorem zin (xs : List Tm) (p : Tm -> Bool) (g : FuncId) (caps : List T) (H : ∀ x ∈ xs, FC Tryz.prog g (tmD x :: caps.map .one) [bD (p x)]) : FC Tryz.prog 122 [.one (tmS xs), .one (.fn g caps)] [iD (qd2 xs p)] := by
 refine zdm (fun hw => ?_) Tryz.call122
 have hl : xs.length <= 9223372036854775807 := by simpa [zhp, wfT] using hw.1.1
 refine zam Tryz.call122 Tryz.func122 rfl (by kernel_rfl) (za1 (by kernel_rfl)) ?_
 simp -implicitDefEqProofs only [go_sem, Tryz.results122]
 refine zaf (fun k : Nat => hd [(0, vT (tmS xs)), (1, vT (.fn g caps)), (7, vI xs.length), (8, vI k)] [] []) (fun k => k <= xs.length /\ ∀ x ∈ xs.take k, p x = false) (fun k => xs.length - k) 0 (zac ?_) ?_ ?_
 ·simp -implicitDefEqProofs only [go_sem]
 ·simp
 ·intro k ⟨hk, hr⟩
  by_cases hlt : k < xs.length
  ·simp -implicitDefEqProofs only [go_sem, zai, hlt, zaa]
   refine callF (H xs[k] (List.getElem_mem hlt)) (by simp -implicitDefEqProofs only [go_sem, zaa]) ?_
   simp -implicitDefEqProofs only [go_sem, zaa]
   refine ⟨fun h => ?_, fun h => ⟨k + 1, ⟨hlt, zgc hlt hr h⟩, by omega, zac (by simp -implicitDefEqProofs only [go_sem]; rw [zao (by omega)])⟩⟩
   rw [zj4 hlt hr h]
  ·simp -implicitDefEqProofs only [go_sem, hlt]
   rw [List.take_of_length_le (by omega)] at hr
   rw [zoe hr]
theorem zdn (xs : List Tm) (p : Tm -> Bool) (g : FuncId) (caps : List T) (H : ∀ x ∈ xs, FC Tryz.prog g (tmD x :: caps.map .one) [bD (p x)]) : FC Tryz.prog 66 [.one (tmS xs), .one (.fn g caps)] [bD (xs.any p)] := by
 refine zam Tryz.call66 Tryz.func66 rfl (by kernel_rfl) (za1 (by kernel_rfl)) ?_
 simp -implicitDefEqProofs only [go_sem, Tryz.results66]
 refine callF (zin xs p g caps H) (by simp -implicitDefEqProofs only [go_sem]) ?_
 simp -implicitDefEqProofs only [go_sem]
 rw [zsa]
theorem zf6 (xs : List Fm) (p : Fm -> Bool) (g : FuncId) (caps : List T) (H : ∀ x ∈ xs, FC Tryz.prog g (fmD x :: caps.map .one) [bD (p x)]) : FC Tryz.prog 202 [.one (fmS xs), .one (.fn g caps)] [iD (qd2 xs p)] := by
 refine zdm (fun hw => ?_) Tryz.call202
 have hl : xs.length <= 9223372036854775807 := by simpa [zhp, wfT] using hw.1.1
 refine zam Tryz.call202 Tryz.func202 rfl (by kernel_rfl) (za1 (by kernel_rfl)) ?_
 simp -implicitDefEqProofs only [go_sem, Tryz.results202]
 refine zaf (fun k : Nat => hd [(0, vT (fmS xs)), (1, vT (.fn g caps)), (7, vI xs.length), (8, vI k)] [] []) (fun k => k <= xs.length /\ ∀ x ∈ xs.take k, p x = false) (fun k => xs.length - k) 0 (zac ?_) ?_ ?_
 ·simp -implicitDefEqProofs only [go_sem]
 ·simp
 ·intro k ⟨hk, hr⟩
  by_cases hlt : k < xs.length
  ·simp -implicitDefEqProofs only [go_sem, zai, hlt, zab, zaa]
   refine callF (H xs[k] (List.getElem_mem hlt)) (by simp -implicitDefEqProofs only [go_sem, zab, zaa]) ?_
   simp -implicitDefEqProofs only [go_sem, zab, zaa]
   refine ⟨fun h => ?_, fun h => ⟨k + 1, ⟨hlt, zgc hlt hr h⟩, by omega, zac (by simp -implicitDefEqProofs only [go_sem]; rw [zao (by omega)])⟩⟩
   rw [zj4 hlt hr h]
  ·simp -implicitDefEqProofs only [go_sem, hlt]
   rw [List.take_of_length_le (by omega)] at hr
   rw [zoe hr]
theorem zaq (xs : List Fm) (p : Fm -> Bool) (g : FuncId) (caps : List T) (H : ∀ x ∈ xs, FC Tryz.prog g (fmD x :: caps.map .one) [bD (p x)]) : FC Tryz.prog 140 [.one (fmS xs), .one (.fn g caps)] [bD (xs.any p)] := by
 refine zam Tryz.call140 Tryz.func140 rfl (by kernel_rfl) (za1 (by kernel_rfl)) ?_
 simp -implicitDefEqProofs only [go_sem, Tryz.results140]
 refine callF (zf6 xs p g caps H) (by simp -implicitDefEqProofs only [go_sem]) ?_
 simp -implicitDefEqProofs only [go_sem]
 rw [zsa]
end Go.Proofs.YtemnhgmgeijkcaaGreat
namespace Go.Proofs.YtemnhgmgeijkcaaGreat
set_option linter.unusedSimpArgs false
set_option linter.unusedVariables false
set_option linter.unusedSectionVars false
set_option maxRecDepth 4000
open Go.RowKit
def Tm.names : Tm -> Bool := Tm.fold fun n xs rs => if za2 n = true then decide (xs.length = 0) else zcg n && decide (xs.length <= 4) && rs.all id
theorem Tm.names_eq (a : Tm) : a.names = if za2 a.name = true then decide (a.args.length = 0) else zcg a.name && decide (a.args.length <= 4) && a.args.all Tm.names := by
 unfold Tm.names
 rw [Tm.fold_eq]
 simp only [List.all_map]
 rfl
theorem zc0 {α : Type} (xs : List α) (p : α -> Bool) : (!xs.any fun x => !p x) = xs.all p := by
 induction xs with
 | nil => rfl
 | cons x xs ih => simp only [List.any_cons, List.all_cons, Bool.not_or, Bool.not_not, ih]
theorem zow (a : Tm) (H : ∀ x ∈ a.args, FC Tryz.prog 189 [tmD x] [bD x.names]) : FC Tryz.prog 189 [tmD a] [bD a.names] := by
 have H1 : ∀ x ∈ a.args, FC Tryz.prog 262 [tmD x] [bD (!x.names)] := fun x hx => by
  simp only [tmD, zaa]
  refine zam Tryz.call262 Tryz.func262 rfl (by kernel_rfl) (za1 (by kernel_rfl)) ?_
  simp -implicitDefEqProofs only [go_sem, Tryz.results262]
  refine callF (H x hx) (by simp -implicitDefEqProofs only [go_sem, zaa]) ?_
  simp -implicitDefEqProofs only [go_sem, zaa]
 have hN := a.names_eq
 simp only [tmD, zaa]
 refine zam Tryz.call189 Tryz.func189 rfl (by kernel_rfl) (za1 (by kernel_rfl)) ?_
 simp -implicitDefEqProofs only [go_sem, Tryz.results189]
 refine callF (ze1 a.name) (by simp -implicitDefEqProofs only [go_sem]) ?_
 simp -implicitDefEqProofs only [go_sem]
 refine ⟨fun h => ?_, fun h => ?_⟩
 ·rw [hN, if_pos h]
  congr 1
  rw [Bool.eq_iff_iff]; simp
 ·rw [h] at hN
  simp only [Bool.false_eq_true, if_false] at hN
  refine callF (zkj a.name) (by simp -implicitDefEqProofs only [go_sem]) ?_
  simp -implicitDefEqProofs only [go_sem]
  refine ⟨fun h1 => ⟨fun h2 => ?_, fun h2 => ?_⟩, fun h1 => ?_⟩
  ·refine callF (zdn a.args (fun x => !x.names) _ [] H1) (by simp -implicitDefEqProofs only [go_sem]) ?_
   simp -implicitDefEqProofs only [go_sem]
   rw [zc0, hN, h1, Bool.true_and]
   rw [show decide (a.args.length <= 4) = true by simp at h2 ⊢; omega]; rfl
  ·rw [hN, h1, Bool.true_and, show decide (a.args.length <= 4) = false by simp at h2 ⊢; omega]; rfl
  ·rw [hN, h1]; rfl
theorem zg7 : ∀ a : Tm, FC Tryz.prog 189 [tmD a] [bD a.names] := zbd fun n xs ih => zow (.mk n xs) ih
def Tm.good (a : Tm) : Bool := zck a && a.names
theorem zge (a : Tm) (hs : a.wt <= 1099511627776) : FC Tryz.prog 123 [tmD a] [bD a.good] := by
 simp only [tmD, zaa]
 refine zam Tryz.call123 Tryz.func123 rfl (by kernel_rfl) (za1 (by kernel_rfl)) ?_
 simp -implicitDefEqProofs only [go_sem, Tryz.results123]
 refine callF (zn3 a hs) (by simp -implicitDefEqProofs only [go_sem, zaa]) ?_
 simp -implicitDefEqProofs only [go_sem, zaa]
 refine ⟨fun h => ?_, fun h => ?_⟩
 ·refine callF (zg7 a) (by simp -implicitDefEqProofs only [go_sem, zaa]) ?_
  simp -implicitDefEqProofs only [go_sem, zaa]
  rw [Tm.good, h, Bool.true_and]
 ·rw [Tm.good, h, Bool.false_and]
theorem zob (a : Tm) : FC Tryz.prog 284 [tmD a] [bD (a.name == [61])] := by
 simp only [tmD, zaa]
 refine zam Tryz.call284 Tryz.func284 rfl (by kernel_rfl) (za1 (by kernel_rfl)) ?_
 simp -implicitDefEqProofs only [go_sem, Tryz.results284]
def Tm.atomOk (a : Tm) : Bool := if (a.name == [61]) = true then decide (a.args.length = 2) && zck a && a.args.all Tm.names else zcg a.name && a.good
theorem zuy {α : Type} {xs : List α} {p : α -> Bool} (h : xs.length = 2) : xs.all p = (p (xs[0]'(by omega)) && p (xs[1]'(by omega))) := by
 match xs, h with
 | [a, b], _ => simp
theorem zl2 (a : Tm) (hs : a.wt <= 1099511627776) : FC Tryz.prog 244 [tmD a] [bD a.atomOk] := by
 have hN : a.atomOk = if (a.name == [61]) = true then decide (a.args.length = 2) && zck a && a.args.all Tm.names else zcg a.name && a.good := rfl
 simp only [tmD, zaa]
 refine zam Tryz.call244 Tryz.func244 rfl (by kernel_rfl) (za1 (by kernel_rfl)) ?_
 simp -implicitDefEqProofs only [go_sem, Tryz.results244]
 refine callF (zob a) (by simp -implicitDefEqProofs only [go_sem, zaa]) ?_
 simp -implicitDefEqProofs only [go_sem, zaa]
 refine ⟨fun h => ?_, fun h => ?_⟩
 ·rw [if_pos h] at hN
  by_cases h2 : a.args.length = 2
  ·have k0 : 0 < a.args.length := by omega
   have k1 : 1 < a.args.length := by omega
   have e2 : ((a.args.length : Int) == 2) = true := by simp [h2]
   have l0 : (0 : Int) < a.args.length := by omega
   have l1 : (1 : Int) < a.args.length := by omega
   rw [zuy h2, show decide (a.args.length = 2) = true by simp [h2]] at hN
   simp only [Bool.true_and] at hN
   simp only [e2, zzs, zet, qhd, zd9, and_true]
   refine callF (zn3 a hs) (by simp -implicitDefEqProofs only [go_sem, zaa, l0, zai, k0]) ?_
   simp -implicitDefEqProofs only [go_sem, zaa, l0, zai, k0]
   refine ⟨fun h3 => ?_, fun h3 => ?_⟩
   ·refine callF (zg7 a.args[0]) (by simp -implicitDefEqProofs only [go_sem, zaa, l1, zai, k1]) ?_
    simp -implicitDefEqProofs only [go_sem, zaa, l1, zai, k1]
    refine ⟨fun h4 => ?_, fun h4 => ?_⟩
    ·refine callF (zg7 a.args[1]) (by simp -implicitDefEqProofs only [go_sem, zaa]) ?_
     simp -implicitDefEqProofs only [go_sem, zaa]
     rw [hN, h3, h4]; rfl
    ·rw [hN, h3, h4]; rfl
   ·rw [hN, h3]; rfl
  ·have e2 : ((a.args.length : Int) == 2) = false := by simp; omega
   simp only [e2, zzs, qfv, zet, zd9, and_true, true_and, qf9]
   rw [hN, show decide (a.args.length = 2) = false by simpa using h2]; rfl
 ·rw [h] at hN
  simp only [Bool.false_eq_true, if_false] at hN
  refine callF (zkj a.name) (by simp -implicitDefEqProofs only [go_sem]) ?_
  simp -implicitDefEqProofs only [go_sem]
  refine ⟨fun h3 => ?_, fun h3 => ?_⟩
  ·refine callF (zge a hs) (by simp -implicitDefEqProofs only [go_sem, zaa]) ?_
   simp -implicitDefEqProofs only [go_sem, zaa]
   rw [hN, h3, Bool.true_and]
  ·rw [hN, h3, Bool.false_and]
def Tm.none (a : Tm) : Bool := a.name == [] && decide (a.args.length = 0)
theorem zbr (a : Tm) : FC Tryz.prog 203 [tmD a] [bD a.none] := by
 simp only [tmD, zaa]
 refine zam Tryz.call203 Tryz.func203 rfl (by kernel_rfl) (za1 (by kernel_rfl)) ?_
 simp -implicitDefEqProofs only [go_sem, Tryz.results203]
 unfold Tm.none
 refine ⟨fun h => ?_, fun h => ?_⟩
 ·rw [h, Bool.true_and]
  congr 1
  rw [Bool.eq_iff_iff]; simp
 ·rw [h]; rfl
def isQ (n : Int) : Bool := n == 8 || n == 9
def zkd (n : Int) : Bool := n == 5 || n == 6 || n == 7
theorem zaj (n : Int) : FC Tryz.prog 232 [iD n] [bD (isQ n)] := by
 refine zam Tryz.call232 Tryz.func232 rfl (by kernel_rfl) (za1 (by kernel_rfl)) ?_
 simp -implicitDefEqProofs only [go_sem, Tryz.results232]
 unfold isQ
 refine ⟨fun h => ?_, fun h => ?_⟩ <;> simp [h]
theorem zfh (n : Int) : FC Tryz.prog 243 [iD n] [bD (zkd n)] := by
 refine zam Tryz.call243 Tryz.func243 rfl (by kernel_rfl) (za1 (by kernel_rfl)) ?_
 simp -implicitDefEqProofs only [go_sem, Tryz.results243]
 unfold zkd
 refine ⟨fun h => ⟨fun h2 => ?_, fun h2 => ?_⟩, fun h => ?_⟩ <;> simp [*]
end Go.Proofs.YtemnhgmgeijkcaaGreat
namespace Go.Proofs.YtemnhgmgeijkcaaGreat
set_option linter.unusedSimpArgs false
set_option linter.unusedVariables false
set_option linter.unusedSectionVars false
set_option maxRecDepth 4000
open Go.RowKit
def voI : Tm -> List Str := Tm.fold fun n xs rs => if (decide (xs.length = 0) && zjf (n.getD 0 0)) = true then [n] else rs.flatten
theorem zsb (a : Tm) : voI a = if (decide (a.args.length = 0) && zjf (a.name.getD 0 0)) = true then [a.name] else (a.args.map voI).flatten := Tm.fold_eq _ a
def voS : Tm -> List Str := Tm.fold fun n _ rs => if za2 n = true then [n] else rs.flatten
theorem zij (a : Tm) : voS a = if za2 a.name = true then [a.name] else (a.args.map voS).flatten := Tm.fold_eq _ a
def Tm.ne : Tm -> Bool := Tm.fold fun n xs rs => (!decide (xs.length = 0) || decide (0 < n.length)) && rs.all id
theorem Tm.ne_eq' (a : Tm) : a.ne = ((!decide (a.args.length = 0) || decide (0 < a.name.length)) && a.args.all Tm.ne) := by
 unfold Tm.ne
 rw [Tm.fold_eq]
 simp only [List.all_map]
 rfl
def zke (l : List Str) (s : Str) : List Str := if l.contains s = true then l else l ++ [s]
def zbx (l : List Str) (ss : List Str) : List Str := ss.foldl zke l
theorem qch (l : List Str) (s : Str) : (zke l s).length <= l.length + 1 := by unfold zke; split <;> simp
theorem zdg : ∀ (ss : List Str) (l : List Str), (zbx l ss).length <= l.length + ss.length
 | [], l => by simp [zbx]
 | s :: ss, l => by have := zdg ss (zke l s); have := qch l s; simp only [zbx, List.foldl_cons, List.length_cons] at *; omega
theorem zf8 (l a b : List Str) : zbx l (a ++ b) = zbx (zbx l a) b := List.foldl_append ..
theorem qct (l : List Str) (s x : Str) : x ∈ zke l s ↔ x = s \/ x ∈ l := by
 unfold zke
 split
 ·rename_i h
  have h : s ∈ l := by simpa using h
  exact ⟨Or.inr, fun k => k.elim (fun e => e ▸ h) id⟩
 ·simp [or_comm]
theorem zm9 : ∀ (ss l : List Str) (x : Str), x ∈ zbx l ss ↔ x ∈ ss \/ x ∈ l
 | [], l, x => by simp [zbx]
 | s :: ss, l, x => by
  show x ∈ zbx (zke l s) ss ↔ _
  rw [zm9 ss, qct]; simp [or_assoc, or_left_comm, or_comm]
theorem qhr {l : List Str} (h : l.Nodup) (s : Str) : (zke l s).Nodup := by
 unfold zke
 split
 ·exact h
 ·rename_i hn
  have hn : s ∉ l := by simpa using hn
  exact List.nodup_append.2 ⟨h, by simp, fun a ha b hb e => hn (by rw [List.mem_singleton.1 hb] at e; exact e ▸ ha)⟩
theorem zst : ∀ (ss : List Str) {l : List Str}, l.Nodup -> (zbx l ss).Nodup
 | [], _, h => h
 | s :: ss, _, h => zst ss (qhr h s)
def zbf (l : List Str) (ss : List Str) : List Str := ss.foldl zqw l
theorem zsq (l : List Str) (s : Str) : (zqw l s).length <= l.length + 1 := by
 unfold zqw
 split
 ·omega
 ·have : l.length = ((l.takeWhile fun x => Op.bytesLess x s) ++ l.dropWhile fun x => Op.bytesLess x s).length := by rw [List.takeWhile_append_dropWhile]
  simp only [List.length_append, List.length_cons, List.length_nil] at *; omega
theorem zcx : ∀ (ss : List Str) (l : List Str), (zbf l ss).length <= l.length + ss.length
 | [], l => by simp [zbf]
 | s :: ss, l => by have := zcx ss (zqw l s); have := zsq l s; simp only [zbf, List.foldl_cons, List.length_cons] at *; omega
theorem zgf (l a b : List Str) : zbf l (a ++ b) = zbf (zbf l a) b := List.foldl_append ..
theorem zny : ∀ (ss l : List Str) (x : Str), x ∈ zbf l ss ↔ x ∈ ss \/ x ∈ l
 | [], l, x => by simp [zbf]
 | s :: ss, l, x => by
  show x ∈ zbf (zqw l s) ss ↔ _
  rw [zny ss, qbi]; simp [or_assoc, or_left_comm, or_comm]
theorem zmf : ∀ (ss : List Str) {l : List Str}, Srt l -> Srt (zbf l ss)
 | [], _, h => h
 | s :: ss, _, h => zmf ss (qdg h s)
theorem zlh (ss : List Str) : zdl (zbx [] ss) = zbf [] ss :=
 qht (zwu (zst ss List.nodup_nil)) (zmf ss List.Pairwise.nil) fun s => by rw [zv5, zm9, zny]
theorem qfp (a : Tm) (h : 0 < a.name.length) : FC Tryz.prog 190 [tmD a] [bD (zjf (a.name.getD 0 0))] := by
 simp only [tmD, zaa]
 refine zam Tryz.call190 Tryz.func190 rfl (by kernel_rfl) (za1 (by kernel_rfl)) ?_
 simp -implicitDefEqProofs only [go_sem, Tryz.results190]
 have h0 : (0 : Int) < a.name.length := by omega
 simp -implicitDefEqProofs only [go_sem, h0, h]
 refine callF (zmz (a.name.getD 0 0)) (by simp -implicitDefEqProofs only [go_sem]) ?_
 simp -implicitDefEqProofs only [go_sem]
theorem zch {α : Type} (f : α -> List Str) (xs : List α) (k : Nat) (h : k < xs.length) : ((xs.take (k + 1)).map f).flatten = ((xs.take k).map f).flatten ++ f xs[k] := by
 rw [List.take_succ_eq_append_getElem h, List.map_append, List.flatten_append]; simp
theorem zos {α : Type} (f : α -> List Str) : ∀ (xs : List α), ∀ x ∈ xs, (f x).length <= ((xs.map f).flatten).length
 | [], x, h => by simp at h
 | a :: xs, x, h => by
  rcases List.mem_cons.1 h with rfl | h
  ·simp
  ·have := zos f xs x h; simp at *; omega
theorem zbq {α : Type} (f : α -> List Str) (xs : List α) (k : Nat) (h : k < xs.length) : (((xs.take k).map f).flatten).length + (f xs[k]).length <= ((xs.map f).flatten).length := by
 have e : xs = xs.take k ++ xs[k] :: xs.drop (k + 1) := by rw [<- List.drop_eq_getElem_cons h, List.take_append_drop]
 conv => rhs; rw [e]
 simp only [List.map_append, List.map_cons, List.flatten_append, List.flatten_cons, List.length_append]; omega
set_option maxHeartbeats 1000000 in
theorem zty (a : Tm) (ha : a.ne = true) (H : ∀ x ∈ a.args, ∀ ys : List Str, ys.length + (voI x).length <= 1073741824 -> GC Tryz.prog 124 [(true, .one (zb2 ys)), (false, tmD x)] [.one (zb2 (zbx ys (voI x)))])
  (ys : List Str) (hs : ys.length + (voI a).length <= 1073741824) (hl : a.args.length <= 1099511627776) : GC Tryz.prog 124 [(true, .one (zb2 ys)), (false, tmD a)] [.one (zb2 (zbx ys (voI a)))] := by
 have hv := zsb a
 rw [Tm.ne_eq'] at ha
 simp only [tmD, zaa]
 refine zmx Tryz.call124 Tryz.func124 rfl (by kernel_rfl) (by simp only [List.length_cons, List.length_nil, Tryz.ntmps124]; omega) (by simp [zby, T.isPin]) ?_
 simp -implicitDefEqProofs only [go_sem, Tryz.results124]
 by_cases h0 : a.args.length = 0
 ·have hn : 0 < a.name.length := by simp [h0] at ha; omega
  have e0 : ((a.args.length : Int) == 0) = true := by simp [h0]
  have hV := qfp a hn
  simp only [tmD, zaa] at hV
  simp -implicitDefEqProofs only [go_sem, e0]
  refine callF (hV) (by simp -implicitDefEqProofs only [go_sem]) ?_
  simp -implicitDefEqProofs only [go_sem]
  refine ⟨fun h1 => ?_, fun h1 => ?_⟩
  ·rw [h1, show decide (a.args.length = 0) = true by simpa using h0, Bool.true_and, if_pos rfl] at hv
   rw [hv] at hs ⊢
   refine callF (zc8 ys a.name) (by simp -implicitDefEqProofs only [go_sem]) ?_
   simp -implicitDefEqProofs only [go_sem]
   have hy : ys.length + 1 <= 4294967296 := by simp at hs; omega
   have hy2 : ys.length <= 4294967295 := by simp at hs; omega
   refine ⟨fun h2 => ?_, fun h2 => ?_⟩
   ·have h2 : ys.contains a.name = false := by simpa using h2
    refine zbl (by simp -implicitDefEqProofs only [go_sem]) ?_
    simp -implicitDefEqProofs only [go_sem]
    refine apD true (by simp -implicitDefEqProofs only [go_sem, hy, hy2, ne_eq, List.length_map]) ?_
    simp -implicitDefEqProofs only [go_sem, hy, hy2, ne_eq, List.length_map]
    have e : zbx ys [a.name] = ys ++ [a.name] := by show zke ys a.name = _; unfold zke; rw [h2]; simp
    exact Or.inl (by rw [e]; simp)
   ·have h2 : ys.contains a.name = true := by simpa using h2
    have e : zbx ys [a.name] = ys := by show zke ys a.name = _; unfold zke; rw [h2]; simp
    exact Or.inl (by rw [e])
  ·rw [h1, Bool.and_false, if_neg (by simp), List.length_eq_zero_iff.1 h0, List.map_nil, List.flatten_nil] at hv
   have hv : voI a = (a.args.map voI).flatten := by rw [hv, List.length_eq_zero_iff.1 h0]; rfl
   rw [hv] at hs ⊢
   refine zaf (fun k : Nat => hd [(0, .one (.ow 0 0)), (27, .one (.rn (tmS a.args))), (28, vI a.args.length), (29, vI k)] [] [(0, ⟨true, 1, (zbx ys ((a.args.take k).map voI).flatten).map fun s => [.str s], 0, true⟩)]) (fun k => k <= a.args.length) (fun k => a.args.length - k) 0 (zac ?_) (Nat.zero_le _) ?_
   ·simp -implicitDefEqProofs only [go_sem]
    rfl
   ·intro k hk
    by_cases hlt : k < a.args.length
    ·have hf := zbq voI a.args k hlt
     have hL := zdg ((a.args.take k).map voI).flatten ys
     have hx := zos voI a.args _ (List.getElem_mem hlt)
     have HC := H a.args[k] (List.getElem_mem hlt) (zbx ys ((a.args.take k).map voI).flatten) (by omega)
     rw [<- zf8, <- zch voI a.args k hlt] at HC
     simp only [tmD, zaa a.args[k]] at HC
     simp -implicitDefEqProofs only [go_sem, zai, hlt, zaa a.args[k]]
     refine zcj [27, 28, 29] [33, 34] [] (HC) (by simp -implicitDefEqProofs only [go_sem]) (by simp -implicitDefEqProofs only [go_sem]) (by simp -implicitDefEqProofs only [go_sem]) (by simp -implicitDefEqProofs only [go_sem]) ?_
     simp -implicitDefEqProofs only [go_sem]
     refine ⟨k + 1, hlt, by omega, zc9 0 1120 ?_⟩
     simp -implicitDefEqProofs only [go_sem]
     rw [zao (by omega)]
    ·simp -implicitDefEqProofs only [go_sem, hlt]
     exact Or.inl (by rw [List.take_of_length_le (by omega)])
 ·have e0 : ((a.args.length : Int) == 0) = false := by simp [h0]
  rw [show decide (a.args.length = 0) = false by simpa using h0, Bool.false_and, if_neg (by simp)] at hv
  rw [hv] at hs ⊢
  simp -implicitDefEqProofs only [go_sem, e0]
  refine zaf (fun k : Nat => hd [(0, .one (.ow 0 0)), (27, .one (.rn (tmS a.args))), (28, vI a.args.length), (29, vI k)] [] [(0, ⟨true, 1, (zbx ys ((a.args.take k).map voI).flatten).map fun s => [.str s], 0, true⟩)]) (fun k => k <= a.args.length) (fun k => a.args.length - k) 0 (zac ?_) (Nat.zero_le _) ?_
  ·simp -implicitDefEqProofs only [go_sem]
   rfl
  ·intro k hk
   by_cases hlt : k < a.args.length
   ·have hf := zbq voI a.args k hlt
    have hL := zdg ((a.args.take k).map voI).flatten ys
    have hx := zos voI a.args _ (List.getElem_mem hlt)
    have HC := H a.args[k] (List.getElem_mem hlt) (zbx ys ((a.args.take k).map voI).flatten) (by omega)
    rw [<- zf8, <- zch voI a.args k hlt] at HC
    simp only [tmD, zaa a.args[k]] at HC
    simp -implicitDefEqProofs only [go_sem, zai, hlt, zaa a.args[k]]
    refine zcj [27, 28, 29] [33, 34] [] (HC) (by simp -implicitDefEqProofs only [go_sem]) (by simp -implicitDefEqProofs only [go_sem]) (by simp -implicitDefEqProofs only [go_sem]) (by simp -implicitDefEqProofs only [go_sem]) ?_
    simp -implicitDefEqProofs only [go_sem]
    refine ⟨k + 1, hlt, by omega, zc9 0 1120 ?_⟩
    simp -implicitDefEqProofs only [go_sem]
    rw [zao (by omega)]
   ·simp -implicitDefEqProofs only [go_sem, hlt]
    exact Or.inl (by rw [List.take_of_length_le (by omega)])
theorem zm4 : ∀ a : Tm, a.ne = true -> a.wt <= 1099511627776 -> ∀ ys : List Str, ys.length + (voI a).length <= 1073741824 -> GC Tryz.prog 124 [(true, .one (zb2 ys)), (false, tmD a)] [.one (zb2 (zbx ys (voI a)))] :=
 zbd fun n xs ih ha hw ys hs => zty (.mk n xs) ha (fun x hx ys hs => ih x hx (by rw [Tm.ne_eq', Bool.and_eq_true] at ha; exact List.all_eq_true.1 ha.2 x hx) (by
  have := Tm.wt_eq (.mk n xs)
  have := zbk Tm.wt xs x hx
  simp only [Tm.args] at *; omega) ys hs) ys hs (by have := Tm.wt_eq (.mk n xs); omega)
theorem zoq (a : Tm) (ha : a.ne = true) (hw : a.wt <= 1099511627776) (hs : (voI a).length <= 1073741824) : FC Tryz.prog 246 [tmD a] [.one (zb2 (zbf [] (voI a)))] := by
 have HC := zm4 a ha hw [] (by simpa using hs)
 have HS := zic (zbx [] (voI a)) (by have := zdg (voI a) []; simp at this; omega)
 rw [zlh] at HS
 simp only [tmD, zaa] at HC ⊢
 refine zc3 Tryz.call246 Tryz.func246 rfl (by kernel_rfl) (za1 (by kernel_rfl)) ?_
 simp -implicitDefEqProofs only [go_sem, Tryz.results246]
 refine zbl (by simp -implicitDefEqProofs only [go_sem]) ?_
 simp -implicitDefEqProofs only [go_sem]
 refine zcj [] [4, 5] [] (HC) (by simp -implicitDefEqProofs only [go_sem]) (by simp -implicitDefEqProofs only [go_sem]) (by simp -implicitDefEqProofs only [go_sem]) (by simp -implicitDefEqProofs only [go_sem]) ?_
 simp -implicitDefEqProofs only [go_sem]
 refine zu2 (HS) (by simp -implicitDefEqProofs only [go_sem, zbu]) (by simp -implicitDefEqProofs only [go_sem, zbu]) rfl ?_
 simp -implicitDefEqProofs only [go_sem, zbu]
theorem zuw (a : Tm) (H : ∀ x ∈ a.args, ∀ ys : List Str, ys.length + (voS x).length <= 1073741824 -> GC Tryz.prog 241 [(true, .one (zb2 ys)), (false, tmD x)] [.one (zb2 (zbf ys (voS x)))])
  (ys : List Str) (hs : ys.length + (voS a).length <= 1073741824) (hl : a.args.length <= 1099511627776) : GC Tryz.prog 241 [(true, .one (zb2 ys)), (false, tmD a)] [.one (zb2 (zbf ys (voS a)))] := by
 have hv := zij a
 simp only [tmD, zaa]
 refine zmx Tryz.call241 Tryz.func241 rfl (by kernel_rfl) (by simp only [List.length_cons, List.length_nil, Tryz.ntmps241]; omega) (by simp [zby, T.isPin]) ?_
 simp -implicitDefEqProofs only [go_sem, Tryz.results241]
 refine callF (zjc a.name) (by simp -implicitDefEqProofs only [go_sem]) ?_
 simp -implicitDefEqProofs only [go_sem]
 refine ⟨fun h => ?_, fun h => ?_⟩
 ·rw [if_pos h] at hv
  rw [hv] at hs ⊢
  refine zcj [] [9, 11] [] (zze ys a.name (by simp at hs; omega)) (by simp -implicitDefEqProofs only [go_sem]) (by simp -implicitDefEqProofs only [go_sem]) (by simp -implicitDefEqProofs only [go_sem]) (by simp -implicitDefEqProofs only [go_sem]) ?_
  simp -implicitDefEqProofs only [go_sem]
  exact Or.inl rfl
 ·rw [h, if_neg (by simp)] at hv
  rw [hv] at hs ⊢
  refine zaf (fun k : Nat => hd [(0, .one (.ow 0 0)), (3, .one (.bx 3 0)), (5, vI k)] [(3, [.t (.str a.name), .rn (tmS a.args)])] [(0, ⟨true, 1, (zbf ys ((a.args.take k).map voS).flatten).map fun s => [.str s], 0, true⟩)]) (fun k => k <= a.args.length) (fun k => a.args.length - k) 0 (zac ?_) (Nat.zero_le _) ?_
  ·simp -implicitDefEqProofs only [go_sem]
   rfl
  ·intro k hk
   by_cases hlt : k < a.args.length
   ·have hf := zbq voS a.args k hlt
    have hL := zcx ((a.args.take k).map voS).flatten ys
    have HC := H a.args[k] (List.getElem_mem hlt) (zbf ys ((a.args.take k).map voS).flatten) (by omega)
    rw [<- zgf, <- zch voS a.args k hlt] at HC
    simp only [tmD, zaa a.args[k]] at HC
    simp -implicitDefEqProofs only [go_sem, zai, hlt, zaa a.args[k]]
    refine zcj [3, 5] [20, 25] [] (HC) (by simp -implicitDefEqProofs only [go_sem]) (by simp -implicitDefEqProofs only [go_sem]) (by simp -implicitDefEqProofs only [go_sem]) (by simp -implicitDefEqProofs only [go_sem]) ?_
    simp -implicitDefEqProofs only [go_sem]
    refine ⟨k + 1, hlt, by omega, zc9 0 832 ?_⟩
    simp -implicitDefEqProofs only [go_sem]
    rw [zao (by omega)]
   ·simp -implicitDefEqProofs only [go_sem, hlt]
    exact Or.inl (by rw [List.take_of_length_le (by omega)])
end Go.Proofs.YtemnhgmgeijkcaaGreat
