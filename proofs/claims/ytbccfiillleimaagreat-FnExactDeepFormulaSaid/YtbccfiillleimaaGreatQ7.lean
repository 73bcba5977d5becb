/-
  The walk over plain data, and contracts of functions of the program and of its laws.
  Conditions: those that each theorem names.
-/
import Derived.Test.YtbccfiillleimaaGreatQ6
import Derived.Test.YtbccfiillleimaaGreatQ5
import Derived.RangeFuncNested
import Derived.RangeFuncBound
import Derived.RangeFuncCalls
import Derived.TacticsInMore
import Derived.LoopNIn
import Derived.LoopIn
namespace Go.Proofs.YtbccfiillleimaaGreat
set_option linter.unusedSimpArgs false
set_option linter.unusedVariables false
set_option linter.unusedSectionVars false
set_option maxRecDepth 4000
open Go.RowKit
variable {P : Program}
theorem Rel.afterB {W : List Nat} {bx' : Nat → Option (List C)} {n0 : Nat → Prop} {N : Nat} {σ : St} {g g' : Gh} {a : Act} {w w' : World} {ev' : Nat → Option Ev} {F : List Nat} (h : Rel n0 N σ g a w) (hn0 : LtK n0 w) (hb : Bk (fun k => k < w.heap.size ∧ ∀ b ∈ W, k ≠ g.β b) w w') (hdom : ∀ b, bx' b ≠ none ↔ σ.bx b ≠ none) (hsm : ∀ b, b ∉ W → bx' b = σ.bx b) (hWσ : ∀ b ∈ W, σ.bx b ≠ none) (hn : New σ g (w.heap.size ≤ ·) w' ev' g' F) (hW : ∀ b ∈ W, ∀ cs, bx' b = some cs → ∃ vs ty, w'.heap[g.β b]? = some (.cells vs ty (0, 0)) ∧ CRs ⟨σ.sl, bx', ev'⟩ g' w' cs vs.toList) : Rel n0 N ⟨σ.sl, bx', ev'⟩ g' a w' := by
 have hlt : ∀ e x, σ.ev e = none → ev' e = some x → ∀ b ∈ g'.φ e, w.heap.size ≤ b := fun e x h1 h2 b hbb => ((hn.new e x h1 h2).2.2.1 b hbb).1
 have hold : ∀ e, σ.On e → ∀ b ∈ g.φ e, b < w.heap.size := fun e he b hbb => by
  obtain ⟨x, hx, ho⟩ := he
  exact (h.evs e x hx ho).lt b hbb
 have hon : ∀ e, St.On ⟨σ.sl, bx', ev'⟩ e → σ.ev e ≠ none → σ.On e := fun e he hee => by
  obtain ⟨x, hx, ho⟩ := he
  exact ⟨x, (hn.old e hee).1.symm.trans hx, ho⟩
 have hne : ∀ e, St.On ⟨σ.sl, bx', ev'⟩ e → ∃ x, ev' e = some x := fun e he => ⟨_, he.choose_spec.1⟩
 have m : Mv σ ⟨σ.sl, bx', ev'⟩ g g' w w' := by
  refine ⟨fun b hf => hb.block b ⟨hf.2.2.1, fun k hk e => hf.1 k (hWσ k hk) e.symm⟩, fun b hf => ⟨fun k hk => by rw [hn.β]; exact hf.1 k ((hdom k).1 hk), fun e x hx ho hh => ?_, Nat.lt_of_lt_of_le hf.2.2.1 hb.size, by rw [hn.A0]; exact hf.2.2.2⟩, fun b hbb => ⟨by rw [hn.β], (hdom b).2 hbb⟩, fun e n he => ?_, fun b hf e he hm => ?_⟩
  ·by_cases hee : σ.ev e = none
   ·have := hlt e x hee hx b (List.mem_of_mem_head? hh)
    have := hf.2.2.1
    omega
   ·rw [(hn.old e hee).2.2] at hh
    exact hf.2.1 e x ((hn.old e hee).1.symm.trans hx) ho hh
  ·obtain ⟨x, hx, hg⟩ := he
   have hee : σ.ev e ≠ none := by rw [hx]; simp
   exact ⟨⟨x, (hn.old e hee).1.trans hx, hg⟩, by rw [(hn.old e hee).2.1]⟩
  ·by_cases hee : σ.ev e = none
   ·obtain ⟨x, hx⟩ := hne e he
    have := hlt e x hee hx b hm
    have := hf.1.2.2.1
    omega
   ·rw [(hn.old e hee).2.2] at hm
    exact hf.2 e (hon e he hee) hm
 refine ⟨h.defers, h.size, by rw [hn.A0, hn.R0]; exact h.anew, fun i => by rw [hn.R0]; exact m.vr (h.slots i), fun b cs hbb => ?_, fun b hbb => by rw [hn.β]; exact h.base b ((hdom b).1 hbb), fun b b' h1 h2 h3 => by rw [hn.β] at h3; exact h.inj b b' ((hdom b).1 h1) ((hdom b').1 h2) h3, fun e x he ho => ?_, fun e x he ho => ?_, hn.slc, fun e he b hbb => ?_, fun e he b hbb => ?_, fun e he => ?_, fun e e' h1 h2 hne' b hb1 hb2 => ?_, fun e k he hk hm => ?_⟩
 ·by_cases hbW : b ∈ W
  ·rw [hn.β]; exact hW b hbW cs hbb
  have hbb : bx' b = some cs := hbb
  rw [hsm b hbW] at hbb
  obtain ⟨vs, ty, k1, k2⟩ := h.boxes b cs hbb
  have hne0 : σ.bx b ≠ none := by rw [hbb]; simp
  exact ⟨vs, ty, by rw [hn.β, hb.block _ ⟨h.lt hne0, fun k hk e => hbW (h.inj b k hne0 (hWσ k hk) e ▸ hk)⟩]; exact k1, m.crs k2⟩
 ·by_cases hee : σ.ev e = none
  ·obtain ⟨⟨k1, _, k0⟩, k2, k3, k4⟩ := hn.new e x hee he
   rw [k0]
   unfold OwnV at k2
   obtain ⟨ao, cap, j1, j2, j3, j4⟩ := k2
   refine ⟨ao, cap, j1, j2, j3, ?_⟩
   rcases j4 with j4 | ⟨b, cells, ty, fps, j4, j5, j6, j7, j8⟩
   ·exact Or.inl j4
   ·exact Or.inr ⟨b, cells, ty, fps, j4, j5, j6, j7, by rw [if_pos k1]; exact j8⟩
  ·have he' := he
   simp only [(hn.old e hee).1] at he
   rw [(hn.old e hee).2.1, (hn.old e hee).2.2]
   exact m.evr (h.evs e x he ho) fun b hbb => hb.block b ⟨hold e ⟨x, he, ho⟩ b hbb, fun k hk e' => h.ebx e k ⟨x, he, ho⟩ (hWσ k hk) (e' ▸ hbb)⟩
 ·by_cases hee : σ.ev e = none
  ·obtain ⟨⟨_, k1, _⟩, _⟩ := hn.new e x hee he
   rw [k1] at ho; cases ho
  ·simp only [(hn.old e hee).1] at he
   rw [(hn.old e hee).2.1]
   exact ⟨m.rep (h.offs e x he ho).1, (h.offs e x he ho).2⟩
 ·by_cases hee : σ.ev e = none
  ·obtain ⟨x, hx⟩ := hne e he
   rw [hn.A0, hn.R0]
   exact h.anew b (hn0.new (hlt e x hee hx b hbb))
  ·rw [(hn.old e hee).2.2] at hbb
   rw [hn.A0, hn.R0]
   exact h.ebase e (hon e he hee) b hbb
 ·by_cases hee : σ.ev e = none
  ·obtain ⟨x, hx⟩ := hne e he
   exact hn0.new (hlt e x hee hx b hbb)
  ·rw [(hn.old e hee).2.2] at hbb
   exact h.etop e (hon e he hee) b hbb
 ·by_cases hee : σ.ev e = none
  ·obtain ⟨x, hx⟩ := hne e he
   exact (hn.new e x hee hx).2.2.2
  ·rw [(hn.old e hee).2.2]; exact h.nodup e (hon e he hee)
 ·obtain ⟨x, hx⟩ := hne e h1
  obtain ⟨x', hx'⟩ := hne e' h2
  by_cases e1 : σ.ev e = none <;> by_cases e2 : σ.ev e' = none
  ·exact hn.apart e e' e1 e2 (by rw [hx]; simp) (by rw [hx']; simp) hne' b hb1 hb2
  ·rw [(hn.old e' e2).2.2] at hb2
   have := hlt e x e1 hx b hb1
   have := hold e' (hon e' h2 e2) b hb2
   omega
  ·rw [(hn.old e e1).2.2] at hb1
   have := hlt e' x' e2 hx' b hb2
   have := hold e (hon e h1 e1) b hb1
   omega
  ·rw [(hn.old e e1).2.2] at hb1
   rw [(hn.old e' e2).2.2] at hb2
   exact h.apart e e' (hon e h1 e1) (hon e' h2 e2) hne' b hb1 hb2
 ·rw [hn.β] at hm
  by_cases hee : σ.ev e = none
  ·obtain ⟨x, hx⟩ := hne e he
   have := hlt e x hee hx _ hm
   have := h.lt ((hdom k).1 hk)
   omega
  ·rw [(hn.old e hee).2.2] at hm
   exact h.ebx e k (hon e he hee) ((hdom k).1 hk) hm
def gvQ : List V → List (Bool × D) → Prop
 | [], [] => True
 | v :: vs, (false, d) :: ds => rdV v d ∧ gvQ vs ds
 | .one (.t x) :: vs, (true, .one t) :: ds => x = t ∧ t.flat = true ∧ gvQ vs ds
 | _, _ => False
theorem flat_own {w : World} {A : Nat → Prop} {t : T} {v : Value} (hf : t.flat = true) (h : RepV w A t v) : OwnV w t v [] ∧ topT t [] = [] := by
 cases t <;> simp only [T.flat, Bool.false_eq_true] at hf
 ·unfold RepV at h; unfold OwnV; exact ⟨⟨h.1, h.2.1, h.2.2, rfl⟩, rfl⟩
 ·unfold RepV at h; unfold OwnV; exact ⟨⟨h, rfl⟩, rfl⟩
 ·unfold RepV at h; unfold OwnV; exact ⟨⟨h.1, h.2, rfl⟩, rfl⟩
 ·unfold RepV at h; unfold OwnV; exact ⟨⟨h, rfl⟩, rfl⟩
theorem gvQ_sound {σ : St} {g : Gh} {w : World} : ∀ {xs : List V} {ds : List (Bool × D)} {vs : List Value}, gvQ xs ds → VRl σ g w xs vs → GArgs w (Free σ g w) ds vs [] []
 | [], [], vs, _, hv => ⟨hv, rfl, rfl⟩
 | [], _ :: _, _, h, _ => h.elim
 | x :: xs, [], _, h, _ => by cases x with
  | one c => cases c <;> exact h.elim
  | agg _ => exact h.elim
  | tup _ => exact h.elim
 | x :: xs, (false, d) :: ds, vs, h, hv => by
  obtain ⟨v, vs', rfl, h1, h2⟩ := hv
  have h : rdV x d ∧ gvQ xs ds := by cases x with
   | one c => cases c <;> exact h
   | agg _ => exact h
   | tup _ => exact h
  exact ⟨v, vs', rfl, rdV_fr h.1 h1, gvQ_sound h.2 h2⟩
 | .one (.t x) :: xs, (true, .one t) :: ds, vs, h, hv => by
  obtain ⟨v, vs', rfl, h1, h2⟩ := hv
  obtain ⟨rfl, hf, h⟩ := h
  obtain ⟨k1, k2⟩ := flat_own hf h1
  exact ⟨v, vs', [], [], [], [], rfl, rfl, rfl, ⟨k1, k2.symm⟩, gvQ_sound h h2⟩
 | x :: _, (true, .agg _) :: _, _, h, _ => by cases x with
  | one c => cases c <;> exact h.elim
  | agg _ => exact h.elim
  | tup _ => exact h.elim
 | .one (.nl _) :: _, (true, .one _) :: _, _, h, _ => h.elim
 | .one (.ow _ _) :: _, (true, .one _) :: _, _, h, _ => h.elim
 | .one (.bx _ _) :: _, (true, .one _) :: _, _, h, _ => h.elim
 | .one (.el _ _) :: _, (true, .one _) :: _, _, h, _ => h.elim
 | .one (.eo _ _ _ _ _) :: _, (true, .one _) :: _, _, h, _ => h.elim
 | .one (.fn _ _) :: _, (true, .one _) :: _, _, h, _ => h.elim
 | .one (.cv _) :: _, (true, .one _) :: _, _, h, _ => h.elim
 | .one .any :: _, (true, .one _) :: _, _, h, _ => h.elim
 | .one (.rn _) :: _, (true, .one _) :: _, _, h, _ => h.elim
 | .one (.er _ _) :: _, (true, .one _) :: _, _, h, _ => h.elim
 | .agg _ :: _, (true, .one _) :: _, _, h, _ => h.elim
 | .tup _ :: _, (true, .one _) :: _, _, h, _ => h.elim
def upsB : List (Nat × List C) → (Nat → Option (List C)) → (Nat → Option (List C))
 | [], f => f
 | (k, cs) :: l, f => upd (upsB l f) k (some cs)
def boL (d : Nat) : Nat → List Nat → Bxs → List (Nat × List C)
 | m, k :: W, b :: bx => (k, mC d m b) :: boL d (m + b.length) W bx
 | _, _, _ => []
theorem setB_ups (d : Nat) : ∀ (W : List Nat) (bx : Bxs) (m : Nat) (f : Nat → Option (List C)), setB d m W bx f = upsB (boL d m W bx) f
 | [], bx, m, f => by unfold setB boL; rfl
 | k :: W, [], m, f => by unfold setB boL; rfl
 | k :: W, b :: bx, m, f => by unfold setB boL upsB; rw [setB_ups d W bx]
def mEl (d : Nat) : Nat → List (Bool × T) → List (Nat × Ev) → List (Nat × Ev)
 | _, [], acc => acc
 | j, (true, .sl sz rows) :: ts, acc => mEl d (j + 1) ts ((d * 32 + j, ⟨true, sz, rows, 0, true⟩) :: acc)
 | j, (_, _) :: ts, acc => mEl d (j + 1) ts acc
theorem mE_ups (d : Nat) : ∀ (ts : List (Bool × T)) (j : Nat) (acc : List (Nat × Ev)) (f : Nat → Option Ev), mE d j ts (upsE acc f) = upsE (mEl d j ts acc) f
 | [], _, _, _ => rfl
 | (false, t) :: ts, j, acc, f => by
  have : mEl d j ((false, t) :: ts) acc = mEl d (j + 1) ts acc := by cases t <;> rfl
  rw [this]; exact mE_ups d ts (j + 1) acc f
 | (true, t) :: ts, j, acc, f => by
  cases t
  case sl sz rows => exact mE_ups d ts (j + 1) ((d * 32 + j, ⟨true, sz, rows, 0, true⟩) :: acc) f
  all_goals exact mE_ups d ts (j + 1) acc f
theorem mEl_keys (d : Nat) : ∀ (ts : List (Bool × T)) (j : Nat) (acc : List (Nat × Ev)) (k : Ky), k ∈ eK acc → k ∈ eK (mEl d j ts acc)
 | [], _, _, _, h => h
 | (false, t) :: ts, j, acc, k, h => by
  have : mEl d j ((false, t) :: ts) acc = mEl d (j + 1) ts acc := by cases t <;> rfl
  rw [this]; exact mEl_keys d ts (j + 1) acc k h
 | (true, t) :: ts, j, acc, k, h => by
  cases t
  case sl sz rows => exact mEl_keys d ts (j + 1) _ k (by unfold eK; exact List.mem_cons_of_mem _ h)
  all_goals exact mEl_keys d ts (j + 1) acc k h
theorem mF_loc (d : Nat) : ∀ (ts : List (Bool × T)) (j : Nat) (acc : List (Nat × Ev)) (f f' : Nat → Option Ev), (∀ e, (2, e) ∈ eK (mEl d j ts acc) → f' e = f e) → mF d j ts f → mF d j ts f'
 | [], _, _, _, _, _, _ => trivial
 | (false, t) :: ts, j, acc, f, f', hk, h => by
  have e0 : mEl d j ((false, t) :: ts) acc = mEl d (j + 1) ts acc := by cases t <;> rfl
  rw [e0] at hk
  exact mF_loc d ts (j + 1) acc f f' hk h
 | (true, t) :: ts, j, acc, f, f', hk, h => by
  cases t
  case sl sz rows =>
   obtain ⟨h1, h2⟩ := h
   have hm : (2, d * 32 + j) ∈ eK (mEl d j ((true, .sl sz rows) :: ts) acc) := mEl_keys d ts (j + 1) _ _ (by unfold eK; simp)
   refine ⟨(hk _ hm).trans h1, mF_loc d ts (j + 1) ((d * 32 + j, ⟨true, sz, rows, 0, true⟩) :: acc) _ _ (fun e he => ?_) h2⟩
   by_cases hee : e = d * 32 + j
   ·subst hee; show upd _ _ _ _ = upd _ _ _ _; rw [upd_same, upd_same]
   ·show upd _ _ _ _ = upd _ _ _ _; rw [upd_ne _ _ hee, upd_ne _ _ hee]; exact hk e he
  all_goals exact ⟨h.1, mF_loc d ts (j + 1) acc _ _ hk h.2⟩
def boK : List (Nat × List C) → List Ky
 | [] => []
 | (k, _) :: l => (1, k) :: boK l
def wK1 : List Nat → List Ky
 | [] => []
 | k :: l => (1, k) :: wK1 l
theorem boK_mem {n e : Nat} : ∀ {l : List (Nat × List C)}, (n, e) ∈ boK l → n = 1
 | [], h => by simp [boK] at h
 | (e', x) :: l, h => by
  simp only [boK, List.mem_cons, Prod.mk.injEq] at h
  rcases h with h | h
  ·exact h.1
  ·exact boK_mem h
theorem boK_ok : ∀ l, okK (boK l) = true
 | [] => rfl
 | (e, x) :: l => by have := boK_ok l; unfold okK at *; simpa [boK] using this
theorem wK1_ok : ∀ l, okK (wK1 l) = true
 | [] => rfl
 | e :: l => by have := wK1_ok l; unfold okK at *; simpa [wK1] using this
theorem upsB_in : ∀ {l : List (Nat × List C)} (f f' : Nat → Option (List C)) {e : Nat}, (1, e) ∈ boK l → upsB l f e = upsB l f' e
 | [], f, f', e, h => by simp [boK] at h
 | (e', x) :: l, f, f', e, h => by
  unfold upsB
  by_cases he : e = e'
  ·subst he; rw [upd_same, upd_same]
  ·rw [upd_ne _ _ he, upd_ne _ _ he]
   simp only [boK, List.mem_cons, Prod.mk.injEq] at h
   exact upsB_in f f' (h.resolve_left fun hh => he hh.2)
theorem upsB_out : ∀ {l : List (Nat × List C)} (f : Nat → Option (List C)) {e : Nat}, (1, e) ∉ boK l → upsB l f e = f e
 | [], f, e, h => rfl
 | (e', x) :: l, f, e, h => by
  simp only [boK, List.mem_cons, Prod.mk.injEq, true_and, not_or] at h
  unfold upsB
  rw [upd_ne _ _ h.1, upsB_out f h.2]
def St.upEB (σ : St) (l : List (Nat × Ev)) (bl : List (Nat × List C)) : St := ⟨σ.sl, upsB bl σ.bx, upsE l σ.ev⟩
theorem LocS.ofB {o : Oper} {σ : St} {R : List Ky} {l : List (Nat × Ev)} {bl : List (Nat × List C)} {v : V} {d : Nat} (hd : o.dst = some d) (hR : okK R = true) (h : ∀ σ1, (∀ k ∈ R, sameK σ σ1 k) → StepSem P o σ1 ((σ1.upEB l bl).put (some d) v)) : LocS P o R (dK (some d) ++ (boK bl ++ eK l)) σ ((σ.upEB l bl).put (some d) v) := by
 have hW : okK (dK (some d) ++ (boK bl ++ eK l)) = true := okK_app (dK_ok _) (okK_app (boK_ok _) (eK_ok _))
 refine ⟨hW, hR, fun k hk3 hk => ?_, fun σ1 h1 => ?_⟩
 ·simp only [List.mem_append, not_or] at hk
  refine sameK.trans ?_ (put_off hk.1)
  obtain ⟨n, i⟩ := k
  match n, hk3 with
  | 0, _ => rfl
  | 1, _ => exact (upsB_out σ.bx hk.2.1).symm
  | 2, _ => exact (upsE_out σ.ev hk.2.2).symm
 ·have : ptch σ1 (dK (some d) ++ (boK bl ++ eK l)) ((σ.upEB l bl).put (some d) v) = (σ1.upEB l bl).put (some d) v := by
   refine sameK.all3 fun c i hc => ?_
   by_cases hin : (c, i) ∈ dK (some d) ++ (boK bl ++ eK l)
   ·refine (ptch_on hW hin).trans ?_
    simp only [List.mem_append] at hin
    match c, hc with
    | 0, _ =>
     rcases hin with h | h | h
     ·simp only [dK, List.mem_cons, List.not_mem_nil, or_false, Prod.mk.injEq, true_and] at h
      subst h
      show upd _ _ _ _ = upd _ _ _ _
      rw [upd_same, upd_same]
     ·have := boK_mem h; omega
     ·have := eK_mem h; omega
    | 1, _ =>
     rcases hin with h | h | h
     ·simp [dK] at h
     ·exact upsB_in _ _ h
     ·have := eK_mem h; omega
    | 2, _ =>
     rcases hin with h | h | h
     ·simp [dK] at h
     ·have := boK_mem h; omega
     ·exact upsE_in _ _ h
   ·refine (ptch_off hc hin).trans ?_
    simp only [List.mem_append, not_or] at hin
    refine sameK.trans ?_ (put_off hin.1)
    match c, hc with
    | 0, _ => rfl
    | 1, _ => exact (upsB_out σ1.bx hin.2.1).symm
    | 2, _ => exact (upsE_out σ1.ev hin.2.2).symm
  rw [this]
  exact h σ1 h1
def St.callQ (σ : St) (d : Nat) (W : List Nat) (bx' : Bxs) (res : List (Bool × D)) : St := { sl := upd σ.sl d (tupV (mD d 0 res)), bx := upsB (boL d (flatM res).length W bx') σ.bx, ev := upsE (mEl d 0 (flatM res ++ bx'.flatten) []) σ.ev }
theorem callQ_eq (σ : St) (d : Nat) (W : List Nat) (bx' : Bxs) (res : List (Bool × D)) : σ.callQ d W bx' res = ((σ.upEB (mEl d 0 (flatM res ++ bx'.flatten) []) (boL d (flatM res).length W bx')).put (some d) (tupV (mD d 0 res))) := rfl
theorem sem_callQ {W : List Nat} {o : Oper} {σ : St} {x : Operand} {asx : Array Operand} {ts : Array TypeId} {f : FuncId} {cvs : List V} {d : Nat} {bx bx' : Bxs} {l : List AF} {res : List (Bool × D)} (ho : o.op = .call ⟨.value x, asx, ts⟩) (hd : o.dst = some d)
  (h : PC P f bx l bx' res) (hc : calleeOf (σ.get P 0 x) = some (f, cvs)) (hWn : W.Nodup)
  (hv : mtK W l (σ.gets P asx ts ++ cvs) fun us => boxK σ W bx fun cs => gvQ (us ++ cs) (AF.ds l ++ bxA bx.flatten)) (hf : mF d 0 (flatM res ++ bx'.flatten) σ.ev) : StepSem P o σ (σ.callQ d W bx' res) := by
 intro n0 N g a w hR hn hdN
 obtain ⟨vs, h1, h2⟩ := call_run hR ho hc h.1
 unfold Oper.wp
 rw [h1]
 let bs : Nat → Nat := fun j => g.β (W.getD j 0)
 have hbs : ∀ j b, W[j]? = some b → bs j = g.β b := fun j b hj => by show g.β (W.getD j 0) = _; rw [List.getD_eq_getElem?_getD, hj]; rfl
 obtain ⟨us, dvs, a1, a2, a3, rfl⟩ := mtK_sound hbs hv h2
 obtain ⟨cs, bvs, b1, b2, b3, b4, b5⟩ := boxK_sound hR (bs := bs) (j := 0) (fun i b hi => by rw [Nat.zero_add]; exact hbs i b hi) a1
 have k2 := gvQ_sound b1 (VRl.append a2 b2)
 have hWj : ∀ j, j < bx.length → ∃ b, W[j]? = some b ∧ b ∈ W ∧ bs j = g.β b := fun j hj => by
  have hlt : j < W.length := by omega
  exact ⟨W[j], List.getElem?_eq_getElem hlt, List.getElem_mem hlt, hbs j _ (List.getElem?_eq_getElem hlt)⟩
 have hinj : ∀ i j, i < bx.length → j < bx.length → bs i = bs j → i = j := fun i j hi hj he => by
  obtain ⟨b, e1, e2, e3⟩ := hWj i hi
  obtain ⟨c, f1, f2, f3⟩ := hWj j hj
  have : b = c := hR.inj b c (b5 b e2) (b5 c f2) (by rw [← e3, ← f3]; exact he)
  subst this
  have hi' : i < W.length := by omega
  have hj' : j < W.length := by omega
  rw [List.getElem?_eq_getElem hi'] at e1
  rw [List.getElem?_eq_getElem hj'] at f1
  exact (List.getElem_inj hWn).1 ((Option.some.inj e1).trans (Option.some.inj f1).symm)
 have hfb : ∀ b, Free σ g w b → ∀ j, j < bx.length → b ≠ bs j := fun b hb j hj e => by
  obtain ⟨c, _, e2, e3⟩ := hWj j hj
  exact hb.1.1 c (b5 c e2) (by rw [← e3, e])
 refine (h.2.2 w bs bvs dvs [] [] (Free σ g w) hinj (fun j _ => by simp) b3 (GArgs.keepA (fun b hb => ⟨⟨hb.1.2.2.1, by simp, hfb b hb⟩, hb⟩) k2) List.nodup_nil a3).mono ?_
 rintro e w' ⟨us', bvs', fp', tp', rfl, hbx', hlu, o1, o2, o3, hbk⟩
 obtain ⟨v1, v2, f1, f2, t1, t2, ev, ef, et, p1, p2⟩ := GArgs.split o1
 obtain ⟨rfl, rfl⟩ := List.append_inj ev (by rw [hlu, GArgs.len p1])
 subst ef
 obtain ⟨t1', p1'⟩ := p1.flat
 have pp := GArgs.append p1' p2
 rw [← bxA_append] at pp
 have e0 : mE d 0 (flatM res ++ bx'.flatten) σ.ev = upsE (mEl d 0 (flatM res ++ bx'.flatten) []) σ.ev := mE_ups d _ 0 [] σ.ev
 have e1 : setB d (flatM res).length W bx' σ.bx = upsB (boL d (flatM res).length W bx') σ.bx := setB_ups d W bx' _ _
 obtain ⟨g', q1, q2, q3⟩ := New.mix (τ := σ) (g := g) (NB := fun b => w.heap.size ≤ b) (w' := w') d (flatM res ++ bx'.flatten) _ (f1 ++ f2) _ 0 σ.ev g [] (New.refl _ _ _ _ hR.slc) hf pp o2 (fun b hb' => ⟨by simpa using o3 b hb', by simp⟩)
 have hbk' : Bk (fun k => k < w.heap.size ∧ ∀ b ∈ W, k ≠ g.β b) w w' := ⟨hbk.os, hbk.tape, hbk.output, hbk.size, fun k hk => hbk.block k ⟨hk.1, by simp, fun j hj e => by
  obtain ⟨c, _, e2, e3⟩ := hWj j hj
  exact hk.2 c e2 (by rw [← e3, e])⟩⟩
 have hWl : W.length = bx'.length := by rw [h.2.1]; omega
 have hdom : ∀ b, setB d (flatM res).length W bx' σ.bx b ≠ none ↔ σ.bx b ≠ none := fun b => by
  by_cases hbW : b ∈ W
  ·exact ⟨fun _ => b5 b hbW, fun _ => setB_ne d W bx' _ _ b hWl hbW⟩
  ·rw [setB_out d W bx' _ _ b hbW]
 have hfree : ∀ k, ((k < w'.heap.size ∧ k ∉ f1 ++ f2 ∧ ∀ j, j < bx.length → k ≠ bs j) ∧ (Free σ g w k ∨ w.heap.size ≤ k ∨ k ∈ ([] : List Nat))) → Free ⟨σ.sl, setB d (flatM res).length W bx' σ.bx, mE d 0 (flatM res ++ bx'.flatten) σ.ev⟩ g' w' k := fun k hk => by
  have hno : ∀ e, St.On ⟨σ.sl, setB d (flatM res).length W bx' σ.bx, mE d 0 (flatM res ++ bx'.flatten) σ.ev⟩ e → k ∉ g'.φ e := fun e ho' hm => by
   by_cases hee : σ.ev e = none
   ·obtain ⟨x, hx, _⟩ := ho'
    have := ((q1.new e x hee hx).2.2.1 k hm).2
    rw [List.nil_append] at this
    exact hk.1.2.1 this
   ·rw [(q1.old e hee).2.2] at hm
    obtain ⟨x, hx, hon⟩ := ho'
    have ho2 : σ.On e := ⟨x, (q1.old e hee).1.symm.trans hx, hon⟩
    rcases hk.2 with h | h | h
    ·exact h.2 e ho2 hm
    ·obtain ⟨y, hy, hyo⟩ := ho2
     have := (hR.evs e y hy hyo).lt k hm; omega
    ·simp at h
  refine ⟨⟨fun j hj e => ?_, fun e x hx hon hh => hno e ⟨x, hx, hon⟩ (List.mem_of_mem_head? hh), hk.1.1, ?_⟩, hno⟩
  ·have hj' := (hdom j).1 hj
   rw [q1.β] at e
   rcases hk.2 with h | h | h
   ·exact h.1.1 j hj' e
   ·have := hR.lt hj'; omega
   ·simp at h
  ·rw [q1.A0]
   rcases hk.2 with h | h | h
   ·exact h.1.2.2.2
   ·exact (hR.anew k (hn.new h)).1
   ·simp at h
 have hcr := q3 ⟨σ.sl, setB d (flatM res).length W bx' σ.bx, mE d 0 (flatM res ++ bx'.flatten) σ.ev⟩ w' rfl fun t v h => RepV.keep (fun _ _ => rfl) hfree t v h
 obtain ⟨hc1, hc2⟩ := hcr.split_flat (A := fun _ => True) (w' := w') (m := 0) (GArgs.one_vals p1)
 have hR' := hR.afterB hn hbk' hdom (fun b hb => setB_out d W bx' _ _ b hb) b5 q1 (setB_sound d W bx' bvs' 0 (flatM res).length σ.bx (fun i b hi => by rw [Nat.zero_add]; exact hbs i b hi) hbx' hc2 hWl)
 have hBk : Bk n0 w w' := ⟨hbk.os, hbk.tape, hbk.output, hbk.size, fun k hk => hbk.block k ⟨hn k hk, by simp, fun j hj e => by
  obtain ⟨c, _, e2, e3⟩ := hWj j hj
  exact hR.base c (b5 c e2) (by rw [← e3, ← e]; exact hk)⟩⟩
 refine ⟨g', ?_, hBk, q1.A0, q1.R0⟩
 have hp := hR'.put (some d) (x := tupV (mD d 0 res)) (v := resVal us') (tupV_vr (mD_vr d 0 p1 hc1) (mD_tup d res 0)) (fun i hi => by cases hi; exact hdN d hd)
 rw [e0, e1] at hp
 rw [hd]
 exact hp
section
variable {ks : List Fr} {Q : Exit → St → Prop} {σ : St} {ops : Array Oper} {os : List Oper} {L : List (List Ky × List Ky)} {ty : TypeId} {ps : String} {af : Array Edge} {d : Nat} {x : Operand} {asx : Array Operand} {ts : Array TypeId} {f : FuncId} {bx bx' : Bxs} {l : List AF} {res : List (Bool × D)}
theorem callQ (W : List Nat) (h : PC P f bx l bx' res) (hWn : W.Nodup)
  (hp : onSome (calleeOf (σ.get P 0 x)) fun p => p.1 = f ∧ mtK W l (σ.gets P asx ts ++ p.2) fun us => boxK σ W bx fun cs => gvQ (us ++ cs) (AF.ds l ++ bxA bx.flatten)) (hf : mF d 0 (flatM res ++ bx'.flatten) σ.ev)
  (k : exo P ops os ks Q (σ.callQ d W bx' res)) : exo P ops (⟨some d, .call ⟨.value x, asx, ts⟩, ty, ps, af, none⟩ :: os) ks Q σ := by
 obtain ⟨⟨f', cvs⟩, h1, rfl, h2⟩ := onSome_ex hp
 exact exo_sem rfl rfl (sem_callQ rfl rfl h h1 hWn h2 hf) k
theorem boxK_loc {σ1 : St} : ∀ {W : List Nat} {bx : Bxs} {K : List V → Prop}, (∀ k ∈ wK1 W, sameK σ σ1 k) → boxK σ W bx K → boxK σ1 W bx K
 | [], [], _, _, h => h
 | [], _ :: _, _, _, h => h.elim
 | _ :: _, [], _, _, h => h.elim
 | k :: W, b :: bx, K, hs, h => by
  obtain ⟨cs, h1, h2, h3⟩ := onSome_ex h
  have : σ1.bx k = some cs := (Eq.symm (hs (1, k) (by simp [wK1]))).trans h1
  show onSome (σ1.bx k) _
  rw [this]
  exact ⟨h2, boxK_loc (W := W) (fun k hk => hs k (by simp [wK1, hk])) h3⟩
theorem gets_loc2 {σ1 : St} {asx : Array Operand} {ts : Array TypeId} (h : ∀ k ∈ keysOf asx.toList, sameK σ σ1 k) : σ1.gets P asx ts = σ.gets P asx ts := by
 unfold St.gets
 refine List.map_congr_left fun p hp => ?_
 exact get_loc h (List.of_mem_zip hp).1 _
theorem keysOf_cons_mem {x : Operand} {l : List Operand} {k : Ky} (h : k ∈ keysOf l) : k ∈ keysOf (x :: l) := by
 cases x <;> first | exact List.mem_cons_of_mem _ h | exact h
theorem dCallQ (W : List Nat) (h : PC P f bx l bx' res) (hWn : W.Nodup)
  (hp : onSome (calleeOf (σ.get P 0 x)) fun p => p.1 = f ∧ mtK W l (σ.gets P asx ts ++ p.2) fun us => boxK σ W bx fun cs => gvQ (us ++ cs) (AF.ds l ++ bxA bx.flatten)) (hf : mF d 0 (flatM res ++ bx'.flatten) σ.ev)
  (k : exd P ops os (L ++ [(keysOf (x :: asx.toList) ++ (wK1 W ++ eK (mEl d 0 (flatM res ++ bx'.flatten) [])), dK (some d) ++ (boK (boL d (flatM res).length W bx') ++ eK (mEl d 0 (flatM res ++ bx'.flatten) [])))]) ks Q (σ.callQ d W bx' res)) :
  exd P ops (⟨some d, .call ⟨.value x, asx, ts⟩, ty, ps, af, none⟩ :: os) L ks Q σ := by
 obtain ⟨⟨f', cvs⟩, h1, rfl, h2⟩ := onSome_ex hp
 refine exd_of rfl rfl ?_ k
 rw [callQ_eq]
 refine LocS.ofB rfl (okK_app (keysOf_ok _) (okK_app (wK1_ok _) (eK_ok _))) fun σ1 hs => ?_
 rw [← callQ_eq]
 have e1 : σ1.get P 0 x = σ.get P 0 x := get_loc (l := x :: asx.toList) (fun k hk => hs k (by simp only [List.mem_append]; exact Or.inl hk)) (by simp) 0
 have e2 : σ1.gets P asx ts = σ.gets P asx ts := gets_loc2 fun k hk => hs k (by simp only [List.mem_append]; exact Or.inl (keysOf_cons_mem hk))
 refine sem_callQ rfl rfl h (by rw [e1]; exact h1) hWn (by rw [e2]; exact mtK_mono (fun us hu => boxK_loc (fun k hk => hs k (by simp only [List.mem_append]; exact Or.inr (Or.inl hk))) hu) h2) ?_
 exact mF_loc d _ 0 [] _ _ (fun e he => Eq.symm (hs (2, e) (by simp only [List.mem_append]; exact Or.inr (Or.inr he)))) hf
theorem gCallF {ds0 res0 : List D} {gR : List Ky} (h : FC P f ds0 res0) (hp : onSome (calleeOf (σ.get P 0 x)) fun p => p.1 = f ∧ VDs σ (σ.gets P asx ts ++ p.2) ds0 ∧ freeE d 0 (resCells res0) σ.ev)
  (k : exd P ops os (L ++ [(gR ++ (keysOf (x :: asx.toList) ++ (vsK σ (σ.gets P asx ts ++ cvsOf (calleeOf (σ.get P 0 x))) ++ eK (owL d 0 (resCells res0)))), dK (some d) ++ eK (owL d 0 (resCells res0)))]) ks Q (σ.callF d res0)) :
  exdG P ops ⟨some d, .call ⟨.value x, asx, ts⟩, ty, ps, af, none⟩ os L gR ks Q σ := by
 obtain ⟨⟨f', cvs⟩, h1, rfl, h2, h3⟩ := onSome_ex hp
 rw [h1] at k
 exact exdG_of _ _ _ _ _ _ rfl (loc_callF rfl rfl h h1 h2 h3) k
end
attribute [go_sem] gvQ upsB boL mEl boK wK1 St.callQ
end Go.Proofs.YtbccfiillleimaaGreat
namespace Go.Proofs.YtbccfiillleimaaGreat
set_option linter.unusedSimpArgs false
set_option linter.unusedVariables false
set_option linter.unusedSectionVars false
set_option maxRecDepth 4000
open Go.RowKit
theorem isNaN_c (s : Str) : FC Tryz.prog 260 [sD s] [bD false] := by
 refine FC_of Tryz.call260 Tryz.func260 rfl (by kernel_rfl) (by simp only [rd, List.map_cons, List.map_nil, List.length_cons, List.length_nil, Tryz.ntmps260]; omega) ?_
 simp -implicitDefEqProofs only [go_sem, Tryz.results260]
 simp
def cmpI (s t : Str) : Int := if Op.bytesLess s t = true then -1 else if (s == t) = true then 0 else 1
theorem strCmp_c (s t : Str) : FC Tryz.prog 269 [sD s, sD t] [iD (cmpI s t)] := by
 have hc : cmpI s t = if Op.bytesLess s t = true then -1 else if (s == t) = true then 0 else 1 := rfl
 refine FC_of Tryz.call269 Tryz.func269 rfl (by kernel_rfl) (by simp only [rd, List.map_cons, List.map_nil, List.length_cons, List.length_nil, Tryz.ntmps269]; omega) ?_
 simp -implicitDefEqProofs only [go_sem, Tryz.results269]
 refine callF (isNaN_c s) (by simp -implicitDefEqProofs only [go_sem]) ?_
 simp -implicitDefEqProofs only [go_sem]
 refine callF (isNaN_c t) (by simp -implicitDefEqProofs only [go_sem]) ?_
 simp -implicitDefEqProofs only [go_sem]
 refine ⟨fun h => by rw [hc, if_pos h], fun h => ⟨fun h2 => ?_, fun h2 => ?_⟩⟩
 ·rw [h, Bool.false_or, Bool.not_eq_true'] at h2
  rw [hc, h, h2]; rfl
 ·rw [h, Bool.false_or, Bool.not_eq_false'] at h2
  rw [hc, h, h2]; rfl
def bnC (p : Str × Tm) : List T := .str p.1 :: tmC p.2
def sbS (l : List (Str × Tm)) : T := .sl 3 (l.map bnC)
theorem bnC_eq (n : Str) (t : Tm) : bnC (n, t) = [.str n, .str t.name, .sl 2 (t.args.map tmC)] := by unfold bnC; rw [tmC_eq]
theorem sbTerm1_c (n : Str) (t : Tm) (x : Str) : FC Tryz.prog 268 [.agg (bnC (n, t)), sD x] [iD (cmpI n x)] := by
 rw [bnC_eq]
 refine FC_of Tryz.call268 Tryz.func268 rfl (by kernel_rfl) (by simp only [rd, List.map_cons, List.map_nil, List.length_cons, List.length_nil, Tryz.ntmps268]; omega) ?_
 simp -implicitDefEqProofs only [go_sem, Tryz.results268]
 refine callF (strCmp_c n x) (by simp -implicitDefEqProofs only [go_sem]) ?_
 simp -implicitDefEqProofs only [go_sem]
theorem search_c (n : Str) (t : Tm) (x : Str) : FC Tryz.prog 267 [.one (sbS [(n, t)]), sD x, .one (.fn 268 [])] [iD (if Op.bytesLess n x = true then 1 else 0), bD (n == x)] := by
 have H := sbTerm1_c n t x
 have hS : sbS [(n, t)] = .sl 3 [bnC (n, t)] := rfl
 rw [hS]
 rw [bnC_eq] at H ⊢
 have hc : cmpI n x = if Op.bytesLess n x = true then -1 else if (n == x) = true then 0 else 1 := rfl
 refine FC_of Tryz.call267 Tryz.func267 rfl (by kernel_rfl) (by simp only [rd, List.map_cons, List.map_nil, List.length_cons, List.length_nil, Tryz.ntmps267]; omega) ?_
 simp -implicitDefEqProofs only [go_sem, Tryz.results267]
 refine loop_rule (fun p : Nat × Nat => hd [(0, vT (.sl 3 [[.str n, .str t.name, .sl 2 (t.args.map tmC)]])), (1, vT (.str x)), (2, vT (.fn 268 [])), (8, vI (1 : Nat)), (9, vI p.1), (10, vI p.2)] [] []) (fun p => p = (0, 1) ∨ (p = (1, 1) ∧ Op.bytesLess n x = true) ∨ (p = (0, 0) ∧ Op.bytesLess n x = false)) (fun p => p.2 - p.1) (0, 1) (weak_hd ?_) (Or.inl rfl) ?_
 ·simp -implicitDefEqProofs only [go_sem]
 ·rintro p (rfl | ⟨rfl, hl⟩ | ⟨rfl, hl⟩)
  ·have hz : (IntKind.u64.wrap (IntKind.i64.wrap 1)).fdiv (2 ^ min 1 64) = 0 := by decide
   have hz2 : IntKind.i64.wrap 0 = 0 := by decide
   simp -implicitDefEqProofs only [go_sem, hz, hz2]
   refine callF (H) (by simp -implicitDefEqProofs only [go_sem]) ?_
   simp -implicitDefEqProofs only [go_sem]
   cases hl : Op.bytesLess n x
   ·have hi : decide (cmpI n x < 0) = false := by rw [hc, hl]; cases n == x <;> rfl
    simp -implicitDefEqProofs only [go_sem, hi]
    refine ⟨(0, 0), Or.inr (Or.inr rfl), by decide, weak_hd ?_⟩
    simp -implicitDefEqProofs only [go_sem]
   ·have hi : decide (cmpI n x < 0) = true := by rw [hc, hl]; rfl
    have hz3 : IntKind.i64.wrap 1 = 1 := by decide
    simp -implicitDefEqProofs only [go_sem, hi]
    refine ⟨(1, 1), Or.inr (Or.inl rfl), by decide, weak_hd ?_⟩
    simp -implicitDefEqProofs only [go_sem, hz3]
  ·rw [if_pos hl]
   simp -implicitDefEqProofs only [go_sem]
   have : (n == x) = false := by
    rw [beq_eq_false_iff_ne]
    rintro rfl
    rw [less_eq, decide_eq_true_eq] at hl
    exact str_irr n hl
   rw [this]
  ·rw [hl, if_neg (by simp)]
   simp -implicitDefEqProofs only [go_sem]
   refine callF (H) (by simp -implicitDefEqProofs only [go_sem]) ?_
   simp -implicitDefEqProofs only [go_sem]
   rw [hc, hl]
   cases n == x <;> rfl
theorem sbTerm_yes (n : Str) (t : Tm) : XC Tryz.prog 264 [(false, .agg [sbS [(n, t)]]), (false, sD n)] [(false, tmD t), (true, bD true)] := by
 have H := search_c n t n
 rw [show Op.bytesLess n n = false by rw [less_eq, decide_eq_false_iff_not]; exact str_irr n, beq_self_eq_true] at H
 have hS : sbS [(n, t)] = .sl 3 [bnC (n, t)] := rfl
 rw [hS, bnC_eq] at H ⊢
 simp only [tmD, tmC_eq]
 refine XC_of Tryz.call264 Tryz.func264 rfl (by kernel_rfl) (by simp only [List.length_cons, List.length_nil, Tryz.ntmps264]; omega) (by simp [smallG, T.isPin]) ?_
 simp -implicitDefEqProofs only [go_sem, Tryz.results264]
 refine callF (H) (by simp -implicitDefEqProofs only [go_sem]) ?_
 simp -implicitDefEqProofs only [go_sem]
theorem sbTerm_no (n : Str) (t : Tm) (x : Str) (h : (n == x) = false) : XC Tryz.prog 264 [(false, .agg [sbS [(n, t)]]), (false, sD x)] [(false, tmD (.mk [] [])), (true, bD false)] := by
 have H := search_c n t x
 rw [h] at H
 have hS : sbS [(n, t)] = .sl 3 [bnC (n, t)] := rfl
 rw [hS, bnC_eq] at H ⊢
 simp only [tmD, tmC_eq]
 refine XC_of Tryz.call264 Tryz.func264 rfl (by kernel_rfl) (by simp only [List.length_cons, List.length_nil, Tryz.ntmps264]; omega) (by simp [smallG, T.isPin]) ?_
 simp -implicitDefEqProofs only [go_sem, Tryz.results264]
 refine callF (H) (by simp -implicitDefEqProofs only [go_sem]) ?_
 simp -implicitDefEqProofs only [go_sem]
 exact Or.inl ⟨rfl, rfl⟩
def subT (n : Str) (t : Tm) : Tm → Tm := Tm.fold fun m _ rs => if rs.length = 0 then (if (n == m) = true then t else .mk m []) else .mk m rs
theorem subT_eq (n : Str) (t a : Tm) : subT n t a = if a.args.length = 0 then (if (n == a.name) = true then t else .mk a.name []) else .mk a.name (a.args.map (subT n t)) := by
 unfold subT
 rw [Tm.fold_eq]
 simp only [List.length_map]
theorem apply_of (n : Str) (t : Tm) (ht : t.wt ≤ 1048576) (a : Tm) (ha : a.args.length ≤ 1048576) (H : ∀ x ∈ a.args, FC Tryz.prog 251 [.agg [sbS [(n, t)]], tmD x] [tmD (subT n t x)]) : FC Tryz.prog 251 [.agg [sbS [(n, t)]], tmD a] [tmD (subT n t a)] := by
 have hv := subT_eq n t a
 have HY := sbTerm_yes n t
 have HN := sbTerm_no n t
 have HK := copyTerm_c t ht
 have hS : sbS [(n, t)] = .sl 3 [bnC (n, t)] := rfl
 rw [hS, bnC_eq] at HY HN H ⊢
 by_cases h0 : a.args.length = 0
 ·rw [if_pos h0] at hv
  cases hn : n == a.name
  ·have HN := HN a.name hn
   rw [hn, if_neg (by simp)] at hv
   rw [hv]
   have HN : XC Tryz.prog 264 [(false, .agg [.sl 3 [[.str n, .str t.name, .sl 2 (t.args.map tmC)]]]), (false, sD a.name)] [(false, .agg [.str [], .sl 2 []]), (true, bD false)] := HN
   have e1 : tmD (.mk a.name []) = .agg [.str a.name, .sl 2 []] := rfl
   rw [e1]
   simp only [tmD, tmC_eq a]
   refine FC_ofN Tryz.call251 Tryz.func251 rfl (by kernel_rfl) (by simp only [rd, List.map_cons, List.map_nil, List.length_cons, List.length_nil, Tryz.ntmps251]; omega) ?_
   simp -implicitDefEqProofs only [go_sem, Tryz.results251, h0]
   refine callXL [3, 4] [15, 17] [] (HN) (by simp -implicitDefEqProofs only [go_sem]) (by simp -implicitDefEqProofs only [go_sem]) (by simp -implicitDefEqProofs only [go_sem]) (by simp -implicitDefEqProofs only [go_sem]) ?_
   simp -implicitDefEqProofs only [go_sem]
  ·have hn' : n = a.name := by simpa using hn
   rw [hn, if_pos rfl] at hv
   rw [hv]
   rw [hn'] at HY ⊢
   simp only [tmD, tmC_eq] at HY HK ⊢
   refine FC_ofN Tryz.call251 Tryz.func251 rfl (by kernel_rfl) (by simp only [rd, List.map_cons, List.map_nil, List.length_cons, List.length_nil, Tryz.ntmps251]; omega) ?_
   simp -implicitDefEqProofs only [go_sem, Tryz.results251, h0]
   refine callXL [3, 4] [15, 17] [] (HY) (by simp -implicitDefEqProofs only [go_sem]) (by simp -implicitDefEqProofs only [go_sem]) (by simp -implicitDefEqProofs only [go_sem]) (by simp -implicitDefEqProofs only [go_sem]) ?_
   simp -implicitDefEqProofs only [go_sem]
   refine callF (HK) (by simp -implicitDefEqProofs only [go_sem]) ?_
   simp -implicitDefEqProofs only [go_sem]
 ·have hb : ((a.args.length : Int) == 0) = false := by
   rw [beq_eq_false_iff_ne]; omega
  rw [if_neg h0] at hv
  rw [hv]
  have e1 : tmD (.mk a.name (a.args.map (subT n t))) = .agg [.str a.name, .sl 2 (a.args.map fun x => tmC (subT n t x))] := by unfold tmD; rw [tmC_eq]; simp only [Tm.name, Tm.args, List.map_map, Function.comp_def]
  rw [e1]
  simp only [tmD, tmC_eq a] at H ⊢
  refine FC_of Tryz.call251 Tryz.func251 rfl (by kernel_rfl) (by simp only [rd, List.map_cons, List.map_nil, List.length_cons, List.length_nil, Tryz.ntmps251]; omega) ?_
  simp -implicitDefEqProofs only [go_sem, Tryz.results251, hb]
  refine drawn (by kernel_rfl) ?_
  simp -implicitDefEqProofs only [go_sem]
  refine dMakeD (by simp -implicitDefEqProofs only [go_sem]; omega) ?_
  simp -implicitDefEqProofs only [go_sem]
  refine ⟨by kernel_rfl, ?_⟩
  refine loop_rule (fun k : Nat => hd [(2, .one (.bx 2 0)), (4, .one (.bx 4 0)), (7, .one (.bx 7 0)), (35, vT (tmS a.args)), (36, vI a.args.length), (37, vI k)] [(2, [.t (.sl 3 [[.str n, .str t.name, .sl 2 (t.args.map tmC)]])]), (4, [.t (.str []), .nl 2]), (7, [.t (.str a.name), .ow 1024 0])] [(1024, ⟨true, 2, ((a.args.take k).map fun x => tmC (subT n t x)) ++ List.replicate (a.args.length - k) [.str [], .sl 2 []], 0, true⟩)]) (fun k => k ≤ a.args.length) (fun k => a.args.length - k) 0 (weak_hd ?_) (Nat.zero_le _) ?_
  ·simp -implicitDefEqProofs only [go_sem]
   simp
  ·intro k hk
   by_cases hlt : k < a.args.length
   ·have hlen : ((a.args.take k).map (fun x => tmC (subT n t x)) ++ List.replicate (a.args.length - k) [T.str [], T.sl 2 []]).length = a.args.length := by simp; omega
    have HC := H a.args[k] (List.getElem_mem hlt)
    have hlt2 : k < k + (a.args.length - k) := by omega
    simp only [tmC_eq a.args[k], tmC_eq (subT n t a.args[k])] at HC
    simp -implicitDefEqProofs only [go_sem, List.length_map, getD_at, hlt, tmC_eq a.args[k]]
    refine drawn (by kernel_rfl) ?_
    simp -implicitDefEqProofs only [go_sem]
    refine dCallF (HC) (by simp -implicitDefEqProofs only [go_sem, hlen, hlt, List.length_append, List.length_map, List.length_take, List.length_replicate, Nat.min_eq_left hk, hlt2]) ?_
    simp -implicitDefEqProofs only [go_sem, hlen, hlt, List.length_append, List.length_map, List.length_take, List.length_replicate, Nat.min_eq_left hk, hlt2]
    refine dStoreD (by simp -implicitDefEqProofs only [go_sem]; simp) ?_
    simp -implicitDefEqProofs only [go_sem]
    refine ⟨by kernel_rfl, k + 1, hlt, by omega, weak_hd ?_⟩
    simp -implicitDefEqProofs only [go_sem]
    have hf := fill_next ((a.args.take k).map fun x => tmC (subT n t x)) a.args.length k [T.str [], T.sl 2 []] (tmC (subT n t a.args[k])) (by simp; omega) hlt (by simp [tmC_eq])
    rw [wrap_s (by omega), ← tmC_eq (subT n t a.args[k]), hf, List.take_succ_eq_append_getElem hlt, List.map_append, List.map_singleton]
    exact ⟨rfl, rfl⟩
   ·have ht : a.args.take k = a.args := List.take_of_length_le (by omega)
    simp -implicitDefEqProofs only [go_sem, hlt, ht]
    simp [show a.args.length - k = 0 by omega]
theorem apply_c (n : Str) (t : Tm) (ht : t.wt ≤ 1048576) : ∀ a : Tm, a.wt ≤ 1048576 → FC Tryz.prog 251 [.agg [sbS [(n, t)]], tmD a] [tmD (subT n t a)] :=
 tm_ind fun m xs ih hs => by
  obtain ⟨h1, h2⟩ := Tm.wt_args hs
  exact apply_of n t ht (.mk m xs) h1 fun x hx => ih x hx (h2 x hx)
def cntN (n : Str) : Tm → Nat := Tm.fold fun m _ rs => (if (m == n) = true then 1 else 0) + rs.sum
theorem cntN_eq (n : Str) (a : Tm) : cntN n a = (if (a.name == n) = true then 1 else 0) + (a.args.map (cntN n)).sum := by unfold cntN; rw [Tm.fold_eq]
theorem cntN_nodes (n : Str) : ∀ a : Tm, cntN n a ≤ a.nodes := tm_ind fun m xs ih => by
 rw [cntN_eq, Tm.nodes_eq]
 have : (xs.map (cntN n)).sum ≤ (xs.map Tm.nodes).sum := by
  revert ih
  induction xs with
  | nil => simp
  | cons x xs ih2 =>
   intro ih
   have h1 := ih x (by simp)
   have h2 := ih2 fun y hy => ih y (by simp [hy])
   simp only [List.map_cons, List.sum_cons]
   omega
 show (if (m == n) = true then 1 else 0) + (xs.map (cntN n)).sum ≤ 1 + (xs.map Tm.nodes).sum
 split <;> omega
theorem countName_of (n : Str) (a : Tm) (ha : a.wt ≤ 1099511627776) (H : ∀ x ∈ a.args, FC Tryz.prog 263 [tmD x, sD n] [iD (cntN n x)]) : FC Tryz.prog 263 [tmD a, sD n] [iD (cntN n a)] := by
 have hv := cntN_eq n a
 have hN := nodes_wt a
 have hNe := a.nodes_eq
 have hle := cntN_nodes n a
 simp only [tmD, tmC_eq a]
 refine FC_of Tryz.call263 Tryz.func263 rfl (by kernel_rfl) (by simp only [rd, List.map_cons, List.map_nil, List.length_cons, List.length_nil, Tryz.ntmps263]; omega) ?_
 simp -implicitDefEqProofs only [go_sem, Tryz.results263]
 obtain ⟨z, hz⟩ : ∃ z : Nat, (if (a.name == n) = true then 1 else 0) = z := ⟨_, rfl⟩
 rw [hz] at hv
 cases hn : a.name == n
 all_goals
  rw [hn] at hz
  simp only [Bool.false_eq_true, if_true, if_false] at hz
  simp -implicitDefEqProofs only [go_sem, hn]
  refine loop_rule (fun k : Nat => hd [(1, vT (.str n)), (5, vI (z + ((a.args.take k).map (cntN n)).sum : Nat)), (13, vT (tmS a.args)), (14, vI a.args.length), (15, vI k)] [] []) (fun k => k ≤ a.args.length) (fun k => a.args.length - k) 0 (weak_hd ?_) (Nat.zero_le _) ?_
  ·simp -implicitDefEqProofs only [go_sem]
   subst hz
   rfl
  ·intro k hk
   by_cases hlt : k < a.args.length
   ·have HC := H a.args[k] (List.getElem_mem hlt)
    simp only [tmD, tmC_eq a.args[k]] at HC
    have hsm : ((a.args.take (k + 1)).map (cntN n)).sum = ((a.args.take k).map (cntN n)).sum + cntN n a.args[k] := by rw [List.take_succ_eq_append_getElem hlt, List.map_append, List.sum_append, List.map_singleton, List.sum_singleton]
    have hle2 : ((a.args.take (k + 1)).map (cntN n)).sum ≤ (a.args.map (cntN n)).sum := by
     have := congrArg (fun l => (l.map (cntN n)).sum) (List.take_append_drop (k + 1) a.args)
     simp only [List.map_append, List.sum_append] at this
     omega
    have hlen : a.args.length ≤ a.wt := by have := a.wt_eq; omega
    simp -implicitDefEqProofs only [go_sem, getD_at, hlt, tmC_eq a.args[k]]
    refine callF (HC) (by simp -implicitDefEqProofs only [go_sem]) ?_
    simp -implicitDefEqProofs only [go_sem]
    refine ⟨k + 1, hlt, by omega, weak_hd ?_⟩
    simp -implicitDefEqProofs only [go_sem]
    rw [wrap_s (by omega), wrap_in (by omega) (by omega), hsm]
    exact ⟨by congr 1; omega, rfl⟩
   ·simp -implicitDefEqProofs only [go_sem, hlt]
    rw [hv, List.take_of_length_le (by omega)]
theorem countName_c (n : Str) : ∀ a : Tm, a.wt ≤ 1099511627776 → FC Tryz.prog 263 [tmD a, sD n] [iD (cntN n a)] :=
 tm_ind fun m xs ih hs => countName_of n (.mk m xs) hs fun x hx => ih x hx (Nat.le_trans (args_wt (a := .mk m xs) hx) hs)
theorem occurs_c (n : Str) (a : Tm) (hs : a.wt ≤ 1099511627776) : FC Tryz.prog 249 [sD n, tmD a] [bD (decide (0 < cntN n a))] := by
 have H := countName_c n a hs
 simp only [tmD, tmC_eq] at H ⊢
 have e : decide ((0 : Int) < (cntN n a : Int)) = decide (0 < cntN n a) := by rw [Bool.eq_iff_iff, decide_eq_true_eq, decide_eq_true_eq]; omega
 refine FC_of Tryz.call249 Tryz.func249 rfl (by kernel_rfl) (by simp only [rd, List.map_cons, List.map_nil, List.length_cons, List.length_nil, Tryz.ntmps249]; omega) ?_
 simp -implicitDefEqProofs only [go_sem, Tryz.results249]
 refine callF (H) (by simp -implicitDefEqProofs only [go_sem]) ?_
 simp -implicitDefEqProofs only [go_sem]
 rw [e]
end Go.Proofs.YtbccfiillleimaaGreat
namespace Go.Proofs.YtbccfiillleimaaGreat
set_option linter.unusedSimpArgs false
set_option linter.unusedVariables false
set_option linter.unusedSectionVars false
set_option maxRecDepth 4000
open Go.RowKit
def eqL {α : Type} (p : α → α → Bool) : List α → List α → Bool
 | [], [] => true
 | a :: xs, b :: ys => p a b && eqL p xs ys
 | _, _ => false
theorem eqL_len {α : Type} {p : α → α → Bool} : ∀ {xs ys : List α}, xs.length ≠ ys.length → eqL p xs ys = false
 | [], [], h => absurd rfl h
 | [], _ :: _, _ => rfl
 | _ :: _, [], _ => rfl
 | a :: xs, b :: ys, h => by simp only [eqL]; rw [eqL_len (by simpa using h), Bool.and_false]
theorem eqL_same {α : Type} {p : α → α → Bool} : ∀ {xs ys : List α}, (∀ x ∈ xs, ∀ y, p x y = same x y) → eqL p xs ys = same xs ys
 | [], [], _ => same_nil.symm
 | [], _ :: _, _ => (same_no.2 (by simp)).symm
 | _ :: _, [], _ => (same_no.2 (by simp)).symm
 | a :: xs, b :: ys, h => by simp only [eqL]; rw [same_cons, h a (by simp) b, eqL_same fun x hx y => h x (by simp [hx]) y]
set_option maxRecDepth 10000 in
set_option maxHeartbeats 400000 in
theorem equalFuncTerm_c (xs ys : List Tm) (p : Tm → Tm → Bool) (g : FuncId) (caps : List T) (H : ∀ x ∈ xs, ∀ y ∈ ys, FC Tryz.prog g (tmD x :: tmD y :: caps.map .one) [bD (p x y)]) : FC Tryz.prog 176 [.one (tmS xs), .one (tmS ys), .one (.fn g caps)] [bD (eqL p xs ys)] := by
 refine FC_wf (fun hw => ?_) Tryz.call176
 have hl : xs.length ≤ 9223372036854775807 := by simpa [wfDs, wfT] using hw.1.1
 have hl2 : ys.length ≤ 9223372036854775807 := by simpa [wfDs, wfT] using hw.2.1.1
 refine FC_of Tryz.call176 Tryz.func176 rfl (by kernel_rfl) (by simp only [rd, List.map_cons, List.map_nil, List.length_cons, List.length_nil, Tryz.ntmps176]; omega) ?_
 simp -implicitDefEqProofs only [go_sem, Tryz.results176]
 refine ⟨fun h => ?_, fun h => ?_⟩
 ·rw [eqL_len (by rintro e; simp [e] at h)]
 ·have hlen : xs.length = ys.length := by simp at h; omega
  refine loop_rule (fun k : Nat => hd [(1, vT (tmS ys)), (2, .one (.t (.fn g caps))), (15, vT (tmS xs)), (16, vI xs.length), (17, vI k)] [] []) (fun k => k ≤ xs.length ∧ eqL p xs ys = eqL p (xs.drop k) (ys.drop k)) (fun k => xs.length - k) 0 (weak_hd ?_) ?_ ?_
  ·simp -implicitDefEqProofs only [go_sem]
  ·simp
  ·intro k ⟨hk, hr⟩
   by_cases hlt : k < xs.length
   ·have hk2 : k < ys.length := by omega
    simp -implicitDefEqProofs only [go_sem, List.length_map, getD_at, hlt, hk2, tmC_eq]
    refine callF (H xs[k] (List.getElem_mem hlt) ys[k] (List.getElem_mem hk2)) (by simp -implicitDefEqProofs only [go_sem, tmC_eq]) ?_
    simp -implicitDefEqProofs only [go_sem, tmC_eq]
    rw [List.drop_eq_getElem_cons hlt, List.drop_eq_getElem_cons hk2, eqL] at hr
    refine ⟨fun h => ?_, fun h => ?_⟩
    ·rw [hr, show p xs[k] ys[k] = false by simpa using h]; rfl
    ·rw [show p xs[k] ys[k] = true by simpa using h, Bool.true_and] at hr
     rw [wrap_s (by omega)]
     exact ⟨k + 1, ⟨by omega, hr⟩, by omega, weak_hd (by simp -implicitDefEqProofs only [go_sem])⟩
   ·simp -implicitDefEqProofs only [go_sem, List.length_map, hlt]
    rw [hr, List.drop_of_length_le (by omega), List.drop_of_length_le (by omega)]; rfl
set_option maxRecDepth 10000 in
set_option maxHeartbeats 400000 in
theorem equalFuncFormula_c (xs ys : List Fm) (p : Fm → Fm → Bool) (g : FuncId) (caps : List T) (H : ∀ x ∈ xs, ∀ y ∈ ys, FC Tryz.prog g (fmD x :: fmD y :: caps.map .one) [bD (p x y)]) : FC Tryz.prog 175 [.one (fmS xs), .one (fmS ys), .one (.fn g caps)] [bD (eqL p xs ys)] := by
 refine FC_wf (fun hw => ?_) Tryz.call175
 have hl : xs.length ≤ 9223372036854775807 := by simpa [wfDs, wfT] using hw.1.1
 have hl2 : ys.length ≤ 9223372036854775807 := by simpa [wfDs, wfT] using hw.2.1.1
 refine FC_of Tryz.call175 Tryz.func175 rfl (by kernel_rfl) (by simp only [rd, List.map_cons, List.map_nil, List.length_cons, List.length_nil, Tryz.ntmps175]; omega) ?_
 simp -implicitDefEqProofs only [go_sem, Tryz.results175]
 refine ⟨fun h => ?_, fun h => ?_⟩
 ·rw [eqL_len (by rintro e; simp [e] at h)]
 ·have hlen : xs.length = ys.length := by simp at h; omega
  refine loop_rule (fun k : Nat => hd [(1, vT (fmS ys)), (2, .one (.t (.fn g caps))), (15, vT (fmS xs)), (16, vI xs.length), (17, vI k)] [] []) (fun k => k ≤ xs.length ∧ eqL p xs ys = eqL p (xs.drop k) (ys.drop k)) (fun k => xs.length - k) 0 (weak_hd ?_) ?_ ?_
  ·simp -implicitDefEqProofs only [go_sem]
  ·simp
  ·intro k ⟨hk, hr⟩
   by_cases hlt : k < xs.length
   ·have hk2 : k < ys.length := by omega
    simp -implicitDefEqProofs only [go_sem, List.length_map, getD_at, hlt, hk2, fmC_eq, tmC_eq]
    refine callF (H xs[k] (List.getElem_mem hlt) ys[k] (List.getElem_mem hk2)) (by simp -implicitDefEqProofs only [go_sem, fmC_eq, tmC_eq]) ?_
    simp -implicitDefEqProofs only [go_sem, fmC_eq, tmC_eq]
    rw [List.drop_eq_getElem_cons hlt, List.drop_eq_getElem_cons hk2, eqL] at hr
    refine ⟨fun h => ?_, fun h => ?_⟩
    ·rw [hr, show p xs[k] ys[k] = false by simpa using h]; rfl
    ·rw [show p xs[k] ys[k] = true by simpa using h, Bool.true_and] at hr
     rw [wrap_s (by omega)]
     exact ⟨k + 1, ⟨by omega, hr⟩, by omega, weak_hd (by simp -implicitDefEqProofs only [go_sem])⟩
   ·simp -implicitDefEqProofs only [go_sem, List.length_map, hlt]
    rw [hr, List.drop_of_length_le (by omega), List.drop_of_length_le (by omega)]; rfl
end Go.Proofs.YtbccfiillleimaaGreat
namespace Go.Proofs.YtbccfiillleimaaGreat
set_option linter.unusedSimpArgs false
set_option linter.unusedVariables false
set_option linter.unusedSectionVars false
set_option maxRecDepth 4000
open Go.RowKit
theorem same_tm (a b : Tm) : same a b = (same a.name b.name && same a.args b.args) := by
 cases a; cases b
 rw [Bool.eq_iff_iff]
 simp only [Bool.and_eq_true, same_iff, Tm.name, Tm.args, Tm.mk.injEq]
theorem same_fm (a b : Fm) : same a b = (same a.op b.op && same a.atom b.atom && same a.var b.var && same a.parts b.parts) := by
 cases a; cases b
 rw [Bool.eq_iff_iff]
 simp only [Bool.and_eq_true, same_iff, Fm.op, Fm.atom, Fm.var, Fm.parts, Fm.mk.injEq, and_assoc]
theorem same_beq {α : Type} [BEq α] [LawfulBEq α] (a b : α) : (a == b) = same a b := by
 rw [Bool.eq_iff_iff, beq_iff_eq, same_iff]
theorem eqTerms_of (a b : Tm) (H : FC Tryz.prog 176 [.one (tmS a.args), .one (tmS b.args), .one (.fn 169 [])] [bD (same a.args b.args)]) :
  FC Tryz.prog 169 [tmD a, tmD b] [bD (same a b)] := by
 simp only [tmD, tmC_eq]
 refine FC_of Tryz.call169 Tryz.func169 rfl (by kernel_rfl) (by simp only [rd, List.map_cons, List.map_nil, List.length_cons, List.length_nil, Tryz.ntmps169]; omega) ?_
 simp -implicitDefEqProofs only [go_sem, Tryz.results169]
 refine ⟨fun h => ?_, fun h => ?_⟩
 ·refine callF (H) (by simp -implicitDefEqProofs only [go_sem]) ?_
  simp -implicitDefEqProofs only [go_sem]
  rw [same_tm, ← same_beq a.name, h, Bool.true_and]
 ·rw [same_tm, ← same_beq a.name, h]; rfl
theorem equalTerms_c : ∀ a b : Tm, FC Tryz.prog 169 [tmD a, tmD b] [bD (same a b)] :=
 tm_ind fun n xs ih b => eqTerms_of (.mk n xs) b (by
  rw [show same (Tm.mk n xs).args b.args = eqL same (Tm.mk n xs).args b.args from (eqL_same fun _ _ _ => rfl).symm]
  exact equalFuncTerm_c xs b.args same _ [] fun x hx y _ => ih x hx y)
theorem sameFormula_of (a b : Fm) (H : FC Tryz.prog 175 [.one (fmS a.parts), .one (fmS b.parts), .one (.fn 110 [])] [bD (same a.parts b.parts)]) :
  FC Tryz.prog 110 [fmD a, fmD b] [bD (same a b)] := by
 simp only [fmD, fmC_eq]
 refine FC_of Tryz.call110 Tryz.func110 rfl (by kernel_rfl) (by simp only [rd, List.map_cons, List.map_nil, List.length_cons, List.length_nil, Tryz.ntmps110]; omega) ?_
 simp -implicitDefEqProofs only [go_sem, Tryz.results110]
 refine ⟨fun h1 => ?_, fun h1 => by rw [same_fm, ← same_beq a.op, h1]; rfl⟩
 refine callF (equalTerms_c a.atom b.atom) (by simp -implicitDefEqProofs only [go_sem, tmC_eq]) ?_
 simp -implicitDefEqProofs only [go_sem, tmC_eq]
 refine ⟨fun h2 => ?_, fun h2 => by rw [same_fm, ← same_beq a.op, h1, h2]; rfl⟩
 refine ⟨fun h3 => ?_, fun h3 => by rw [same_fm, ← same_beq a.op, h1, h2, ← same_beq a.var, h3]; rfl⟩
 refine callF (H) (by simp -implicitDefEqProofs only [go_sem]) ?_
 simp -implicitDefEqProofs only [go_sem]
 rw [same_fm, ← same_beq a.op, h1, h2, ← same_beq a.var, h3]; rfl
theorem sameFormula_c : ∀ a b : Fm, FC Tryz.prog 110 [fmD a, fmD b] [bD (same a b)] :=
 fm_ind fun o t v ps ih b => sameFormula_of (.mk o t v ps) b (by
  rw [show same (Fm.mk o t v ps).parts b.parts = eqL same (Fm.mk o t v ps).parts b.parts from (eqL_same fun _ _ _ => rfl).symm]
  exact equalFuncFormula_c ps b.parts same _ [] fun x hx y _ => ih x hx y)
theorem l2Same_of (a b : Tm) (H : ∀ x ∈ a.args, ∀ y, FC Tryz.prog 164 [tmD x, tmD y] [bD (same x y)]) : FC Tryz.prog 164 [tmD a, tmD b] [bD (same a b)] := by
 refine FC_wf (fun hw => ?_) Tryz.call164
 simp only [tmD, tmC_eq] at hw ⊢
 have hl : a.args.length ≤ 9223372036854775807 := by simp [wfDs, wfT, wfTs] at hw; exact hw.1.2.1
 refine FC_of Tryz.call164 Tryz.func164 rfl (by kernel_rfl) (by simp only [rd, List.map_cons, List.map_nil, List.length_cons, List.length_nil, Tryz.ntmps164]; omega) ?_
 simp -implicitDefEqProofs only [go_sem, Tryz.results164]
 refine ⟨fun h1 => ?_, fun h1 => by rw [same_tm, ← same_beq a.name, show (a.name == b.name) = false by simpa using h1]; rfl⟩
 have h1' : same a.name b.name = true := by rw [← same_beq]; simpa using h1
 refine ⟨fun h2 => ?_, fun h2 => ?_⟩
 ·rw [same_tm, h1', Bool.true_and, same_no.2 (by rintro e; simp [e] at h2)]
 have hlen : a.args.length = b.args.length := by simp at h2; omega
 have hs : same a b = same a.args b.args := by rw [same_tm, h1', Bool.true_and]
 refine loop_rule (fun k : Nat => hd [(2, .one (.bx 2 0)), (3, .one (.bx 3 0)), (4, vB false), (5, vI k)] [(2, [.t (.str a.name), .t (tmS a.args)]), (3, [.t (.str b.name), .t (tmS b.args)])] []) (fun k => k ≤ a.args.length ∧ same a.args b.args = same (a.args.drop k) (b.args.drop k)) (fun k => a.args.length - k) 0 (weak_hd ?_) ?_ ?_
 ·simp -implicitDefEqProofs only [go_sem]
 ·simp
 ·intro k ⟨hk, hr⟩
  by_cases hlt : k < a.args.length
  ·have hk2 : k < b.args.length := by omega
   simp -implicitDefEqProofs only [go_sem, hlt]
   refine drawn (by kernel_rfl) ?_
   simp -implicitDefEqProofs only [go_sem, getD_at, hlt, hk2, tmC_eq]
   refine dCallF (H a.args[k] (List.getElem_mem hlt) b.args[k]) (by simp -implicitDefEqProofs only [go_sem, tmC_eq]) ?_
   simp -implicitDefEqProofs only [go_sem, tmC_eq]
   rw [List.drop_eq_getElem_cons hlt, List.drop_eq_getElem_cons hk2, same_cons] at hr
   refine ⟨by kernel_rfl, fun h => ?_, fun h => ?_⟩
   ·rw [hs, hr, show same a.args[k] b.args[k] = false by simpa using h]; rfl
   ·rw [show same a.args[k] b.args[k] = true by simpa using h, Bool.true_and] at hr
    rw [wrap_s (by omega)]
    exact ⟨k + 1, ⟨by omega, hr⟩, by omega, weak_hd (by simp -implicitDefEqProofs only [go_sem])⟩
  ·simp -implicitDefEqProofs only [go_sem, hlt]
   rw [hs, hr, List.drop_of_length_le (by omega), List.drop_of_length_le (by omega), same_nil]
theorem l2Same_c : ∀ a b : Tm, FC Tryz.prog 164 [tmD a, tmD b] [bD (same a b)] := tm_ind fun n xs ih b => l2Same_of (.mk n xs) b ih
set_option maxHeartbeats 1000000 in
theorem l8Same_of (a b : Fm) (H : ∀ x ∈ a.parts, ∀ y, FC Tryz.prog 108 [fmD x, fmD y] [bD (same x y)]) : FC Tryz.prog 108 [fmD a, fmD b] [bD (same a b)] := by
 refine FC_wf (fun hw => ?_) Tryz.call108
 simp only [fmD, fmC_eq] at hw ⊢
 have hl : a.parts.length ≤ 9223372036854775807 := by simp [wfDs, wfT, wfTs] at hw; exact hw.1.2.2.2.2.1
 refine FC_of Tryz.call108 Tryz.func108 rfl (by kernel_rfl) (by simp only [rd, List.map_cons, List.map_nil, List.length_cons, List.length_nil, Tryz.ntmps108]; omega) ?_
 simp -implicitDefEqProofs only [go_sem, Tryz.results108]
 refine ⟨fun h1 => ?_, fun h1 => by rw [same_fm, ← same_beq a.op, show (a.op == b.op) = false by simpa using h1]; rfl⟩
 have h1' : same a.op b.op = true := by rw [← same_beq]; simpa using h1
 refine ⟨fun h2 => ?_, fun h2 => by rw [same_fm, h1', ← same_beq a.var, show (a.var == b.var) = false by simpa using h2]; simp⟩
 have h2' : same a.var b.var = true := by rw [← same_beq]; simpa using h2
 refine callF (l2Same_c a.atom b.atom) (by simp -implicitDefEqProofs only [go_sem, tmC_eq]) ?_
 simp -implicitDefEqProofs only [go_sem, tmC_eq]
 refine ⟨fun h3 => ?_, fun h3 => by rw [same_fm, h1', show same a.atom b.atom = false by simpa using h3]; rfl⟩
 have h3' : same a.atom b.atom = true := by simpa using h3
 have hs : same a b = same a.parts b.parts := by rw [same_fm, h1', h2', h3']; rfl
 refine ⟨fun h4 => ?_, fun h4 => ?_⟩
 ·rw [hs, same_no.2 (by rintro e; simp [e] at h4)]
 have hlen : a.parts.length = b.parts.length := by simp at h4; omega
 refine loop_rule (fun k : Nat => hd [(2, .one (.bx 2 0)), (3, .one (.bx 3 0)), (4, vB false), (5, vI k)] [(2, [.t (.int .i64 a.op), .t (.str a.atom.name), .t (tmS a.atom.args), .t (.str a.var), .t (fmS a.parts)]), (3, [.t (.int .i64 b.op), .t (.str b.atom.name), .t (tmS b.atom.args), .t (.str b.var), .t (fmS b.parts)])] []) (fun k => k ≤ a.parts.length ∧ same a.parts b.parts = same (a.parts.drop k) (b.parts.drop k)) (fun k => a.parts.length - k) 0 (weak_hd ?_) ?_ ?_
 ·simp -implicitDefEqProofs only [go_sem]
 ·simp
 ·intro k ⟨hk, hr⟩
  by_cases hlt : k < a.parts.length
  ·have hk2 : k < b.parts.length := by omega
   simp -implicitDefEqProofs only [go_sem, hlt]
   refine drawn (by kernel_rfl) ?_
   simp -implicitDefEqProofs only [go_sem, getD_at, hlt, hk2, fmC_eq]
   refine dCallF (H a.parts[k] (List.getElem_mem hlt) b.parts[k]) (by simp -implicitDefEqProofs only [go_sem, fmC_eq]) ?_
   simp -implicitDefEqProofs only [go_sem, fmC_eq]
   rw [List.drop_eq_getElem_cons hlt, List.drop_eq_getElem_cons hk2, same_cons] at hr
   refine ⟨by kernel_rfl, fun h => ?_, fun h => ?_⟩
   ·rw [hs, hr, show same a.parts[k] b.parts[k] = false by simpa using h]; rfl
   ·rw [show same a.parts[k] b.parts[k] = true by simpa using h, Bool.true_and] at hr
    rw [wrap_s (by omega)]
    exact ⟨k + 1, ⟨by omega, hr⟩, by omega, weak_hd (by simp -implicitDefEqProofs only [go_sem])⟩
  ·simp -implicitDefEqProofs only [go_sem, hlt]
   rw [hs, hr, List.drop_of_length_le (by omega), List.drop_of_length_le (by omega), same_nil]
theorem l8Same_c : ∀ a b : Fm, FC Tryz.prog 108 [fmD a, fmD b] [bD (same a b)] := fm_ind fun o t v ps ih b => l8Same_of (.mk o t v ps) b ih
end Go.Proofs.YtbccfiillleimaaGreat
namespace Go.Proofs.YtbccfiillleimaaGreat
set_option linter.unusedSimpArgs false
set_option linter.unusedVariables false
set_option linter.unusedSectionVars false
set_option maxRecDepth 4000
open Go.RowKit
def mkF (op : Int) (ps : List Fm) : Fm := .mk op (.mk [] []) [] ps
theorem fmC_mkF (op : Int) (ps : List Fm) : fmC (mkF op ps) = [.int .i64 op, .str [], .sl 2 [], .str [], .sl 5 (ps.map fmC)] := fmC_eq _
end Go.Proofs.YtbccfiillleimaaGreat
namespace Go.Proofs.YtbccfiillleimaaGreat
set_option linter.unusedSimpArgs false
set_option linter.unusedVariables false
set_option linter.unusedSectionVars false
set_option maxRecDepth 4000
open Go.RowKit
set_option maxHeartbeats 4000000 in
theorem hasForm_of (f : Fm) (hs : f.wt ≤ 1099511627776) (H : ∀ x ∈ f.parts, FC Tryz.prog 184 [fmD x] [bD x.forms]) : FC Tryz.prog 184 [fmD f] [bD f.forms] := by
 have H1 : ∀ x ∈ f.parts, FC Tryz.prog 221 [fmD x] [bD (!x.forms)] := fun x hx => by
  simp only [fmD, fmC_eq]
  refine FC_of Tryz.call221 Tryz.func221 rfl (by kernel_rfl) (by simp only [rd, List.map_cons, List.map_nil, List.length_cons, List.length_nil, Tryz.ntmps221]; omega) ?_
  simp -implicitDefEqProofs only [go_sem, Tryz.results221]
  refine callF (H x hx) (by simp -implicitDefEqProofs only [go_sem, fmC_eq]) ?_
  simp -implicitDefEqProofs only [go_sem, fmC_eq]
 have hN := f.forms_eq
 obtain ⟨o, a, v, ps⟩ := f
 have ha : a.wt ≤ 1099511627776 := Nat.le_trans (atom_wt (.mk o a v ps)) hs
 have e0 : ((ps.length : Int) != 0) = !decide (ps.length = 0) := len_bne _ 0
 have e1 : ((ps.length : Int) != 1) = !decide (ps.length = 1) := len_bne _ 1
 have e2 : ((ps.length : Int) != 2) = !decide (ps.length = 2) := len_bne _ 2
 simp only [Fm.parts] at H1 hN
 rcases op_cases o with rfl | rfl | rfl | rfl | rfl | rfl | rfl | rfl | rfl | ⟨n1, n2, n3, n4, n5, n6, n7, n8, n9⟩
 ·have hH : Fm.here (.mk 1 a v ps) = (decide (ps.length = 0) && a.none && (v == [])) := rfl
  rw [hH] at hN
  have hq : isQ 1 = false := rfl
  have hb : isBi 1 = false := rfl
  simp only [fmD, fmC_eq, Fm.op, Fm.atom, Fm.var, Fm.parts]
  refine FC_of Tryz.call184 Tryz.func184 rfl (by kernel_rfl) (by simp only [rd, List.map_cons, List.map_nil, List.length_cons, List.length_nil, Tryz.ntmps184]; omega) ?_
  simp -implicitDefEqProofs only [go_sem, Tryz.results184]
  simp only [e0]
  refine ⟨fun h => ?_, fun h => ?_⟩
  ·have h' : decide (ps.length = 0) = true := by simpa using h
   refine callF (isQuantifier_c 1) (by simp -implicitDefEqProofs only [go_sem, hq]) ?_
   simp -implicitDefEqProofs only [go_sem, hq]
   refine callF (isQuantifier_c 1) (by simp -implicitDefEqProofs only [go_sem, hq]) ?_
   simp -implicitDefEqProofs only [go_sem, hq]
   refine ⟨fun h1 => ?_, fun h1 => ?_⟩
   ·rw [hN, show (v == []) = false by simpa using h1, Bool.and_false, Bool.false_and]
   ·have h1' : (v == []) = true := by simpa using h1
    refine callF (isZeroTerm_c a) (by simp -implicitDefEqProofs only [go_sem, tmC_eq]) ?_
    simp -implicitDefEqProofs only [go_sem, tmC_eq]
    refine ⟨fun h2 => ?_, fun h2 => ?_⟩
    ·rw [hN, show a.none = false by simpa using h2, Bool.and_false, Bool.false_and, Bool.false_and]
    ·have h2' : a.none = true := by simpa using h2
     refine callF (containsFuncFormula_c ps (fun x => !x.forms) _ [] H1) (by simp -implicitDefEqProofs only [go_sem]) ?_
     simp -implicitDefEqProofs only [go_sem]
     rw [not_any, hN, h', h1', h2']; rfl
  ·rw [hN, show decide (ps.length = 0) = false by simpa using h]; rfl
 ·have hH : Fm.here (.mk 2 a v ps) = (decide (ps.length = 0) && a.none && (v == [])) := rfl
  rw [hH] at hN
  have hq : isQ 2 = false := rfl
  have hb : isBi 2 = false := rfl
  simp only [fmD, fmC_eq, Fm.op, Fm.atom, Fm.var, Fm.parts]
  refine FC_of Tryz.call184 Tryz.func184 rfl (by kernel_rfl) (by simp only [rd, List.map_cons, List.map_nil, List.length_cons, List.length_nil, Tryz.ntmps184]; omega) ?_
  simp -implicitDefEqProofs only [go_sem, Tryz.results184]
  simp only [e0]
  refine ⟨fun h => ?_, fun h => ?_⟩
  ·have h' : decide (ps.length = 0) = true := by simpa using h
   refine callF (isQuantifier_c 2) (by simp -implicitDefEqProofs only [go_sem, hq]) ?_
   simp -implicitDefEqProofs only [go_sem, hq]
   refine callF (isQuantifier_c 2) (by simp -implicitDefEqProofs only [go_sem, hq]) ?_
   simp -implicitDefEqProofs only [go_sem, hq]
   refine ⟨fun h1 => ?_, fun h1 => ?_⟩
   ·rw [hN, show (v == []) = false by simpa using h1, Bool.and_false, Bool.false_and]
   ·have h1' : (v == []) = true := by simpa using h1
    refine callF (isZeroTerm_c a) (by simp -implicitDefEqProofs only [go_sem, tmC_eq]) ?_
    simp -implicitDefEqProofs only [go_sem, tmC_eq]
    refine ⟨fun h2 => ?_, fun h2 => ?_⟩
    ·rw [hN, show a.none = false by simpa using h2, Bool.and_false, Bool.false_and, Bool.false_and]
    ·have h2' : a.none = true := by simpa using h2
     refine callF (containsFuncFormula_c ps (fun x => !x.forms) _ [] H1) (by simp -implicitDefEqProofs only [go_sem]) ?_
     simp -implicitDefEqProofs only [go_sem]
     rw [not_any, hN, h', h1', h2']; rfl
  ·rw [hN, show decide (ps.length = 0) = false by simpa using h]; rfl
 ·have hH : Fm.here (.mk 3 a v ps) = (decide (ps.length = 0) && a.atomOk && (v == [])) := rfl
  rw [hH] at hN
  have hq : isQ 3 = false := rfl
  have hb : isBi 3 = false := rfl
  simp only [fmD, fmC_eq, Fm.op, Fm.atom, Fm.var, Fm.parts]
  refine FC_of Tryz.call184 Tryz.func184 rfl (by kernel_rfl) (by simp only [rd, List.map_cons, List.map_nil, List.length_cons, List.length_nil, Tryz.ntmps184]; omega) ?_
  simp -implicitDefEqProofs only [go_sem, Tryz.results184]
  simp only [e0]
  refine ⟨fun h => ?_, fun h => ?_⟩
  ·have h' : decide (ps.length = 0) = true := by simpa using h
   refine callF (isQuantifier_c 3) (by simp -implicitDefEqProofs only [go_sem, hq]) ?_
   simp -implicitDefEqProofs only [go_sem, hq]
   refine callF (isQuantifier_c 3) (by simp -implicitDefEqProofs only [go_sem, hq]) ?_
   simp -implicitDefEqProofs only [go_sem, hq]
   refine ⟨fun h1 => ?_, fun h1 => ?_⟩
   ·rw [hN, show (v == []) = false by simpa using h1, Bool.and_false, Bool.false_and]
   ·have h1' : (v == []) = true := by simpa using h1
    refine callF (isValidAtom_c a ha) (by simp -implicitDefEqProofs only [go_sem, tmC_eq]) ?_
    simp -implicitDefEqProofs only [go_sem, tmC_eq]
    refine And.symm ⟨fun h2 => ?_, fun h2 => ?_⟩
    ·rw [hN, show a.atomOk = false by simpa using h2, Bool.and_false, Bool.false_and, Bool.false_and]
    ·have h2' : a.atomOk = true := by simpa using h2
     refine callF (containsFuncFormula_c ps (fun x => !x.forms) _ [] H1) (by simp -implicitDefEqProofs only [go_sem]) ?_
     simp -implicitDefEqProofs only [go_sem]
     rw [not_any, hN, h', h1', h2']; rfl
  ·rw [hN, show decide (ps.length = 0) = false by simpa using h]; rfl
 ·have hH : Fm.here (.mk 4 a v ps) = (decide (ps.length = 1) && a.none && (v == [])) := rfl
  rw [hH] at hN
  have hq : isQ 4 = false := rfl
  have hb : isBi 4 = false := rfl
  simp only [fmD, fmC_eq, Fm.op, Fm.atom, Fm.var, Fm.parts]
  refine FC_of Tryz.call184 Tryz.func184 rfl (by kernel_rfl) (by simp only [rd, List.map_cons, List.map_nil, List.length_cons, List.length_nil, Tryz.ntmps184]; omega) ?_
  simp -implicitDefEqProofs only [go_sem, Tryz.results184]
  simp only [e1]
  refine ⟨fun h => ?_, fun h => ?_⟩
  ·have h' : decide (ps.length = 1) = true := by simpa using h
   refine callF (isQuantifier_c 4) (by simp -implicitDefEqProofs only [go_sem, hq]) ?_
   simp -implicitDefEqProofs only [go_sem, hq]
   refine callF (isQuantifier_c 4) (by simp -implicitDefEqProofs only [go_sem, hq]) ?_
   simp -implicitDefEqProofs only [go_sem, hq]
   refine ⟨fun h1 => ?_, fun h1 => ?_⟩
   ·rw [hN, show (v == []) = false by simpa using h1, Bool.and_false, Bool.false_and]
   ·have h1' : (v == []) = true := by simpa using h1
    refine callF (isZeroTerm_c a) (by simp -implicitDefEqProofs only [go_sem, tmC_eq]) ?_
    simp -implicitDefEqProofs only [go_sem, tmC_eq]
    refine ⟨fun h2 => ?_, fun h2 => ?_⟩
    ·rw [hN, show a.none = false by simpa using h2, Bool.and_false, Bool.false_and, Bool.false_and]
    ·have h2' : a.none = true := by simpa using h2
     refine callF (containsFuncFormula_c ps (fun x => !x.forms) _ [] H1) (by simp -implicitDefEqProofs only [go_sem]) ?_
     simp -implicitDefEqProofs only [go_sem]
     rw [not_any, hN, h', h1', h2']; rfl
  ·rw [hN, show decide (ps.length = 1) = false by simpa using h]; rfl
 ·have hH : Fm.here (.mk 5 a v ps) = (decide (ps.length = 2) && a.none && (v == [])) := rfl
  rw [hH] at hN
  have hq : isQ 5 = false := rfl
  have hb : isBi 5 = true := rfl
  simp only [fmD, fmC_eq, Fm.op, Fm.atom, Fm.var, Fm.parts]
  refine FC_of Tryz.call184 Tryz.func184 rfl (by kernel_rfl) (by simp only [rd, List.map_cons, List.map_nil, List.length_cons, List.length_nil, Tryz.ntmps184]; omega) ?_
  simp -implicitDefEqProofs only [go_sem, Tryz.results184]
  refine callF (isQuantifier_c 5) (by simp -implicitDefEqProofs only [go_sem, hq]) ?_
  simp -implicitDefEqProofs only [go_sem, hq]
  refine callF (isBinary_c 5) (by simp -implicitDefEqProofs only [go_sem, hb]) ?_
  simp -implicitDefEqProofs only [go_sem, hb]
  simp only [e2]
  refine ⟨fun h => ?_, fun h => ?_⟩
  ·have h' : decide (ps.length = 2) = true := by simpa using h
   refine callF (isQuantifier_c 5) (by simp -implicitDefEqProofs only [go_sem, hq]) ?_
   simp -implicitDefEqProofs only [go_sem, hq]
   refine callF (isQuantifier_c 5) (by simp -implicitDefEqProofs only [go_sem, hq]) ?_
   simp -implicitDefEqProofs only [go_sem, hq]
   refine ⟨fun h1 => ?_, fun h1 => ?_⟩
   ·rw [hN, show (v == []) = false by simpa using h1, Bool.and_false, Bool.false_and]
   ·have h1' : (v == []) = true := by simpa using h1
    refine callF (isZeroTerm_c a) (by simp -implicitDefEqProofs only [go_sem, tmC_eq]) ?_
    simp -implicitDefEqProofs only [go_sem, tmC_eq]
    refine ⟨fun h2 => ?_, fun h2 => ?_⟩
    ·rw [hN, show a.none = false by simpa using h2, Bool.and_false, Bool.false_and, Bool.false_and]
    ·have h2' : a.none = true := by simpa using h2
     refine callF (containsFuncFormula_c ps (fun x => !x.forms) _ [] H1) (by simp -implicitDefEqProofs only [go_sem]) ?_
     simp -implicitDefEqProofs only [go_sem]
     rw [not_any, hN, h', h1', h2']; rfl
  ·rw [hN, show decide (ps.length = 2) = false by simpa using h]; rfl
 ·have hH : Fm.here (.mk 6 a v ps) = (decide (ps.length = 2) && a.none && (v == [])) := rfl
  rw [hH] at hN
  have hq : isQ 6 = false := rfl
  have hb : isBi 6 = true := rfl
  simp only [fmD, fmC_eq, Fm.op, Fm.atom, Fm.var, Fm.parts]
  refine FC_of Tryz.call184 Tryz.func184 rfl (by kernel_rfl) (by simp only [rd, List.map_cons, List.map_nil, List.length_cons, List.length_nil, Tryz.ntmps184]; omega) ?_
  simp -implicitDefEqProofs only [go_sem, Tryz.results184]
  refine callF (isQuantifier_c 6) (by simp -implicitDefEqProofs only [go_sem, hq]) ?_
  simp -implicitDefEqProofs only [go_sem, hq]
  refine callF (isBinary_c 6) (by simp -implicitDefEqProofs only [go_sem, hb]) ?_
  simp -implicitDefEqProofs only [go_sem, hb]
  simp only [e2]
  refine ⟨fun h => ?_, fun h => ?_⟩
  ·have h' : decide (ps.length = 2) = true := by simpa using h
   refine callF (isQuantifier_c 6) (by simp -implicitDefEqProofs only [go_sem, hq]) ?_
   simp -implicitDefEqProofs only [go_sem, hq]
   refine callF (isQuantifier_c 6) (by simp -implicitDefEqProofs only [go_sem, hq]) ?_
   simp -implicitDefEqProofs only [go_sem, hq]
   refine ⟨fun h1 => ?_, fun h1 => ?_⟩
   ·rw [hN, show (v == []) = false by simpa using h1, Bool.and_false, Bool.false_and]
   ·have h1' : (v == []) = true := by simpa using h1
    refine callF (isZeroTerm_c a) (by simp -implicitDefEqProofs only [go_sem, tmC_eq]) ?_
    simp -implicitDefEqProofs only [go_sem, tmC_eq]
    refine ⟨fun h2 => ?_, fun h2 => ?_⟩
    ·rw [hN, show a.none = false by simpa using h2, Bool.and_false, Bool.false_and, Bool.false_and]
    ·have h2' : a.none = true := by simpa using h2
     refine callF (containsFuncFormula_c ps (fun x => !x.forms) _ [] H1) (by simp -implicitDefEqProofs only [go_sem]) ?_
     simp -implicitDefEqProofs only [go_sem]
     rw [not_any, hN, h', h1', h2']; rfl
  ·rw [hN, show decide (ps.length = 2) = false by simpa using h]; rfl
 ·have hH : Fm.here (.mk 7 a v ps) = (decide (ps.length = 2) && a.none && (v == [])) := rfl
  rw [hH] at hN
  have hq : isQ 7 = false := rfl
  have hb : isBi 7 = true := rfl
  simp only [fmD, fmC_eq, Fm.op, Fm.atom, Fm.var, Fm.parts]
  refine FC_of Tryz.call184 Tryz.func184 rfl (by kernel_rfl) (by simp only [rd, List.map_cons, List.map_nil, List.length_cons, List.length_nil, Tryz.ntmps184]; omega) ?_
  simp -implicitDefEqProofs only [go_sem, Tryz.results184]
  refine callF (isQuantifier_c 7) (by simp -implicitDefEqProofs only [go_sem, hq]) ?_
  simp -implicitDefEqProofs only [go_sem, hq]
  refine callF (isBinary_c 7) (by simp -implicitDefEqProofs only [go_sem, hb]) ?_
  simp -implicitDefEqProofs only [go_sem, hb]
  simp only [e2]
  refine ⟨fun h => ?_, fun h => ?_⟩
  ·have h' : decide (ps.length = 2) = true := by simpa using h
   refine callF (isQuantifier_c 7) (by simp -implicitDefEqProofs only [go_sem, hq]) ?_
   simp -implicitDefEqProofs only [go_sem, hq]
   refine callF (isQuantifier_c 7) (by simp -implicitDefEqProofs only [go_sem, hq]) ?_
   simp -implicitDefEqProofs only [go_sem, hq]
   refine ⟨fun h1 => ?_, fun h1 => ?_⟩
   ·rw [hN, show (v == []) = false by simpa using h1, Bool.and_false, Bool.false_and]
   ·have h1' : (v == []) = true := by simpa using h1
    refine callF (isZeroTerm_c a) (by simp -implicitDefEqProofs only [go_sem, tmC_eq]) ?_
    simp -implicitDefEqProofs only [go_sem, tmC_eq]
    refine ⟨fun h2 => ?_, fun h2 => ?_⟩
    ·rw [hN, show a.none = false by simpa using h2, Bool.and_false, Bool.false_and, Bool.false_and]
    ·have h2' : a.none = true := by simpa using h2
     refine callF (containsFuncFormula_c ps (fun x => !x.forms) _ [] H1) (by simp -implicitDefEqProofs only [go_sem]) ?_
     simp -implicitDefEqProofs only [go_sem]
     rw [not_any, hN, h', h1', h2']; rfl
  ·rw [hN, show decide (ps.length = 2) = false by simpa using h]; rfl
 ·have hH : Fm.here (.mk 8 a v ps) = (decide (ps.length = 1) && a.none && varOk v) := rfl
  rw [hH] at hN
  have hq : isQ 8 = true := rfl
  have hb : isBi 8 = false := rfl
  simp only [fmD, fmC_eq, Fm.op, Fm.atom, Fm.var, Fm.parts]
  refine FC_of Tryz.call184 Tryz.func184 rfl (by kernel_rfl) (by simp only [rd, List.map_cons, List.map_nil, List.length_cons, List.length_nil, Tryz.ntmps184]; omega) ?_
  simp -implicitDefEqProofs only [go_sem, Tryz.results184]
  refine callF (isQuantifier_c 8) (by simp -implicitDefEqProofs only [go_sem, hq]) ?_
  simp -implicitDefEqProofs only [go_sem, hq]
  simp only [e1]
  refine ⟨fun h => ?_, fun h => ?_⟩
  ·have h' : decide (ps.length = 1) = true := by simpa using h
   refine callF (isQuantifier_c 8) (by simp -implicitDefEqProofs only [go_sem, hq]) ?_
   simp -implicitDefEqProofs only [go_sem, hq]
   refine callF (isVariable_c v) (by simp -implicitDefEqProofs only [go_sem]) ?_
   simp -implicitDefEqProofs only [go_sem]
   refine ⟨fun h1 => ?_, fun h1 => ?_⟩
   ·have h1' : varOk v = true := by simpa using h1
    refine callF (isQuantifier_c 8) (by simp -implicitDefEqProofs only [go_sem, hq]) ?_
    simp -implicitDefEqProofs only [go_sem, hq]
    refine callF (isZeroTerm_c a) (by simp -implicitDefEqProofs only [go_sem, tmC_eq]) ?_
    simp -implicitDefEqProofs only [go_sem, tmC_eq]
    refine ⟨fun h2 => ?_, fun h2 => ?_⟩
    ·rw [hN, show a.none = false by simpa using h2, Bool.and_false, Bool.false_and, Bool.false_and]
    ·have h2' : a.none = true := by simpa using h2
     refine callF (containsFuncFormula_c ps (fun x => !x.forms) _ [] H1) (by simp -implicitDefEqProofs only [go_sem]) ?_
     simp -implicitDefEqProofs only [go_sem]
     rw [not_any, hN, h', h1', h2']; rfl
   ·rw [hN, show varOk v = false by simpa using h1, Bool.and_false, Bool.false_and]
  ·rw [hN, show decide (ps.length = 1) = false by simpa using h]; rfl
 ·have hH : Fm.here (.mk 9 a v ps) = (decide (ps.length = 1) && a.none && varOk v) := rfl
  rw [hH] at hN
  have hq : isQ 9 = true := rfl
  have hb : isBi 9 = false := rfl
  simp only [fmD, fmC_eq, Fm.op, Fm.atom, Fm.var, Fm.parts]
  refine FC_of Tryz.call184 Tryz.func184 rfl (by kernel_rfl) (by simp only [rd, List.map_cons, List.map_nil, List.length_cons, List.length_nil, Tryz.ntmps184]; omega) ?_
  simp -implicitDefEqProofs only [go_sem, Tryz.results184]
  refine callF (isQuantifier_c 9) (by simp -implicitDefEqProofs only [go_sem, hq]) ?_
  simp -implicitDefEqProofs only [go_sem, hq]
  simp only [e1]
  refine ⟨fun h => ?_, fun h => ?_⟩
  ·have h' : decide (ps.length = 1) = true := by simpa using h
   refine callF (isQuantifier_c 9) (by simp -implicitDefEqProofs only [go_sem, hq]) ?_
   simp -implicitDefEqProofs only [go_sem, hq]
   refine callF (isVariable_c v) (by simp -implicitDefEqProofs only [go_sem]) ?_
   simp -implicitDefEqProofs only [go_sem]
   refine ⟨fun h1 => ?_, fun h1 => ?_⟩
   ·have h1' : varOk v = true := by simpa using h1
    refine callF (isQuantifier_c 9) (by simp -implicitDefEqProofs only [go_sem, hq]) ?_
    simp -implicitDefEqProofs only [go_sem, hq]
    refine callF (isZeroTerm_c a) (by simp -implicitDefEqProofs only [go_sem, tmC_eq]) ?_
    simp -implicitDefEqProofs only [go_sem, tmC_eq]
    refine ⟨fun h2 => ?_, fun h2 => ?_⟩
    ·rw [hN, show a.none = false by simpa using h2, Bool.and_false, Bool.false_and, Bool.false_and]
    ·have h2' : a.none = true := by simpa using h2
     refine callF (containsFuncFormula_c ps (fun x => !x.forms) _ [] H1) (by simp -implicitDefEqProofs only [go_sem]) ?_
     simp -implicitDefEqProofs only [go_sem]
     rw [not_any, hN, h', h1', h2']; rfl
   ·rw [hN, show varOk v = false by simpa using h1, Bool.and_false, Bool.false_and]
  ·rw [hN, show decide (ps.length = 1) = false by simpa using h]; rfl
 ·have hH : Fm.here (.mk o a v ps) = false := by simp [Fm.here, isBi, isQ, Fm.op, *]
  rw [hH] at hN
  have f1 : (o == 1) = false := by simpa using n1
  have f2 : (o == 2) = false := by simpa using n2
  have f3 : (o == 3) = false := by simpa using n3
  have f4 : (o == 4) = false := by simpa using n4
  have hq : isQ o = false := by simp [isQ, n8, n9]
  have hb : isBi o = false := by simp [isBi, n5, n6, n7]
  simp only [fmD, fmC_eq, Fm.op, Fm.atom, Fm.var, Fm.parts]
  refine FC_of Tryz.call184 Tryz.func184 rfl (by kernel_rfl) (by simp only [rd, List.map_cons, List.map_nil, List.length_cons, List.length_nil, Tryz.ntmps184]; omega) ?_
  simp -implicitDefEqProofs only [go_sem, Tryz.results184, f1, f2, f3, f4]
  refine callF (isQuantifier_c o) (by simp -implicitDefEqProofs only [go_sem, hq]) ?_
  simp -implicitDefEqProofs only [go_sem, hq]
  refine callF (isBinary_c o) (by simp -implicitDefEqProofs only [go_sem, hb]) ?_
  simp -implicitDefEqProofs only [go_sem, hb]
  rw [hN]; rfl
theorem hasForm_c : ∀ a : Fm, a.wt ≤ 1099511627776 → FC Tryz.prog 184 [fmD a] [bD a.forms] :=
 fm_ind fun o a v xs ih hs => hasForm_of (.mk o a v xs) hs fun x hx => ih x hx (Nat.le_trans (fparts_wt (a := .mk o a v xs) hx) hs)
theorem isValidFormula_c (a : Fm) (hs : a.wt ≤ 1099511627776) : FC Tryz.prog 116 [fmD a] [bD a.good] := by
 simp only [fmD, fmC_eq]
 refine FC_of Tryz.call116 Tryz.func116 rfl (by kernel_rfl) (by simp only [rd, List.map_cons, List.map_nil, List.length_cons, List.length_nil, Tryz.ntmps116]; omega) ?_
 simp -implicitDefEqProofs only [go_sem, Tryz.results116]
 refine callF (sizeOf_c a hs) (by simp -implicitDefEqProofs only [go_sem, fmC_eq]) ?_
 simp -implicitDefEqProofs only [go_sem, fmC_eq]
 rw [sizeF_le]
 refine ⟨fun h => ?_, fun h => ?_⟩
 ·refine callF (hasForm_c a hs) (by simp -implicitDefEqProofs only [go_sem, fmC_eq]) ?_
  simp -implicitDefEqProofs only [go_sem, fmC_eq]
  rw [Fm.good, h, Bool.true_and]
 ·rw [Fm.good, h, Bool.false_and]
end Go.Proofs.YtbccfiillleimaaGreat
namespace Go.Proofs.YtbccfiillleimaaGreat
set_option linter.unusedSimpArgs false
set_option linter.unusedVariables false
set_option linter.unusedSectionVars false
set_option maxRecDepth 4000
open Go.RowKit
theorem part_nodes {f : Fm} {x : Fm} (h : x ∈ f.parts) : x.nodes < f.nodes := by
 have := f.nodes_eq
 obtain ⟨i, hi, rfl⟩ := List.getElem_of_mem h
 have := mem_sum Fm.nodes f.parts _ (List.getElem_mem hi)
 omega
end Go.Proofs.YtbccfiillleimaaGreat
namespace Go.Proofs.YtbccfiillleimaaGreat
set_option linter.unusedSimpArgs false
set_option linter.unusedVariables false
set_option linter.unusedSectionVars false
set_option maxRecDepth 4000
open Go.RowKit
def subF (n : Str) (t : Tm) : Fm → Fm × Bool := Fm.fold fun o a v ps rs =>
 if (isQ o && (v == n || !((putSs [] (vf (.mk o a v ps) [])).contains n))) = true then (.mk o a v ps, true)
 else if (isQ o && decide (0 < cntN v t)) = true then (mkF 0 [], false)
 else (.mk o (if (o == 3) = true then subT n t a else a) v (rs.map Prod.fst), rs.all Prod.snd)
theorem subF_eq (n : Str) (t : Tm) (f : Fm) : subF n t f = if (isQ f.op && (f.var == n || !((putSs [] (vf f [])).contains n))) = true then (f, true)
  else if (isQ f.op && decide (0 < cntN f.var t)) = true then (mkF 0 [], false)
  else (.mk f.op (if (f.op == 3) = true then subT n t f.atom else f.atom) f.var (f.parts.map fun x => (subF n t x).1), f.parts.all fun x => (subF n t x).2) := by
 cases f with
 | mk o a v ps =>
  conv => lhs; unfold subF; rw [Fm.fold_eq]
  simp only [List.map_map, List.all_map]
  rfl
abbrev subX (n : Str) (t : Tm) (b : Bool) : Bxs := [[(false, .str n)], [(false, .str t.name), (false, .sl 2 (t.args.map tmC))], [(true, .bool b)]]
theorem sub1_of (n : Str) (t : Tm) (f : Fm) (r : Fm) (ok b : Bool) (H : FC Tryz.prog 209 [fmD f, sD n, tmD t] [fmD r, bD ok]) :
  PC Tryz.prog 250 (subX n t b) [.d false (fmD f), .p 0, .p 1, .p 2] (subX n t (b && ok)) [(true, fmD r)] := by
 simp only [fmD, fmC_eq, tmD, tmC_eq t] at H ⊢
 refine PC_of Tryz.call250 Tryz.func250 rfl (by kernel_rfl) (by simp only [List.length_cons, List.length_nil, Tryz.ntmps250]; omega) (by simp only [Tryz.ntmps250]; omega) rfl rfl (by simp [smallG, T.isPin, AF.ds, bxA]) (by simp [gFS, T.fs, T.flat, AF.ds, bxA]) rfl ?_
 simp -implicitDefEqProofs only [go_sem, Tryz.results250]
 refine callF (H) (by simp -implicitDefEqProofs only [go_sem]) ?_
 simp -implicitDefEqProofs only [go_sem]
 exact ⟨fun h => Or.inl (by rw [h]; rfl), fun h => Or.inl (by rw [h]; rfl)⟩
theorem mapPartsP_of (n : Str) (t : Tm) (a : Fm) (g : FuncId) (φ : Fm → Fm) (ψ : Fm → Bool) (b : Bool) (H : ∀ x ∈ a.parts, ∀ b, PC Tryz.prog g (subX n t b) [.d false (fmD x), .p 0, .p 1, .p 2] (subX n t (b && ψ x)) [(true, fmD (φ x))]) (h0 : a.atom.wt ≤ 1048576) (hs : a.parts.length ≤ 1048576) :
  PC Tryz.prog 127 (subX n t b) [.d false (fmD a), .fn g [0, 1, 2]] (subX n t (b && a.parts.all ψ)) [(true, fmD (.mk a.op a.atom a.var (a.parts.map φ)))] := by
 simp only [fmD, fmC_eq a, fmC_mk]
 refine PC_of Tryz.call127 Tryz.func127 rfl (by kernel_rfl) (by simp only [List.length_cons, List.length_nil, Tryz.ntmps127]; omega) (by simp only [Tryz.ntmps127]; omega) rfl rfl (by simp [smallG, T.isPin, AF.ds, bxA]) (by simp [gFS, T.fs, T.flat, AF.ds, bxA]) rfl ?_
 simp -implicitDefEqProofs only [go_sem, Tryz.results127]
 refine drawn (by kernel_rfl) ?_
 simp -implicitDefEqProofs only [go_sem]
 refine dCallF (copyTerm_c a.atom h0) (by simp -implicitDefEqProofs only [go_sem, tmC_eq]) ?_
 simp -implicitDefEqProofs only [go_sem, tmC_eq]
 refine ⟨by kernel_rfl, ?_⟩
 refine loop_rule (fun k : Nat => hd [(1, .one (.fn g [1000000, 1000001, 1000002])), (4, .one (.bx 4 0)), (5, .one (.bx 5 0)), (17, .one (.rn (fmS a.parts))), (18, vI a.parts.length), (19, vI k), (1000000, .one (.bx 1000000 0)), (1000001, .one (.bx 1000001 0)), (1000002, .one (.bx 1000002 0))] [(4, [.t (.int .i64 0), .t (.str []), .nl 2, .t (.str []), .nl 5]), (5, [.t (.int .i64 a.op), .t (.str a.atom.name), .ow 385 0, .t (.str a.var), .ow 3000 0]), (1000000, [.t (.str n)]), (1000001, [.t (.str t.name), .rn (.sl 2 (t.args.map tmC))]), (1000002, [.t (.bool (b && (a.parts.take k).all ψ))])]
  [(385, ⟨true, 2, a.atom.args.map tmC, 0, true⟩), (3000, ⟨true, 5, (a.parts.take k).map fun x => fmC (φ x), 0, true⟩)]) (fun k => k ≤ a.parts.length) (fun k => a.parts.length - k) 0 (weak_hd ?_) ?_ ?_
 ·simp -implicitDefEqProofs only [go_sem]
 ·simp
 ·intro k hk
  by_cases hlt : k < a.parts.length
  ·have hmin : min k a.parts.length ≤ 4294967295 := by omega
   have HC := H a.parts[k] (List.getElem_mem hlt) (b && (a.parts.take k).all ψ)
   have hsuc : (a.parts.take (k + 1)).all ψ = ((a.parts.take k).all ψ && ψ a.parts[k]) := by rw [List.take_succ_eq_append_getElem hlt, List.all_append]; simp
   simp only [fmD, fmC_eq a.parts[k], fmC_eq (φ a.parts[k])] at HC
   simp -implicitDefEqProofs only [go_sem, getD_at, hlt, fmC_eq a.parts[k]]
   refine drawn (by kernel_rfl) ?_
   simp -implicitDefEqProofs only [go_sem]
   refine dCallQ [1000000, 1000001, 1000002] (HC) (by decide) (by simp -implicitDefEqProofs only [go_sem]) (by simp -implicitDefEqProofs only [go_sem]) ?_
   simp -implicitDefEqProofs only [go_sem]
   refine dBuildDc (by simp -implicitDefEqProofs only [go_sem]) ?_
   simp -implicitDefEqProofs only [go_sem]
   refine dApD true (by simp -implicitDefEqProofs only [go_sem, ne_eq, List.length_map, List.length_take, hmin]) ?_
   simp -implicitDefEqProofs only [go_sem, ne_eq, List.length_map, List.length_take, hmin]
   refine ⟨by kernel_rfl, k + 1, hlt, by omega, weak_hd ?_⟩
   simp -implicitDefEqProofs only [go_sem]
   rw [wrap_s (by omega), List.take_succ_eq_append_getElem hlt, List.map_append, List.map_singleton]
   simp only [fmC_eq]
   rw [← List.take_succ_eq_append_getElem hlt, hsuc, Bool.and_assoc]
   exact ⟨trivial, rfl, trivial⟩
  ·have ht : a.parts.take k = a.parts := List.take_of_length_le (by omega)
   simp -implicitDefEqProofs only [go_sem, hlt, ht]
   exact Or.inl (Or.inl rfl)
theorem substituted_of (n : Str) (t : Tm) (ht : t.wt ≤ 1048576) (f : Fm) (hf : f.forms = true) (hw : f.wt ≤ 1048576) (H : ∀ x ∈ f.parts, FC Tryz.prog 209 [fmD x, sD n, tmD t] [fmD (subF n t x).1, bD (subF n t x).2]) :
  FC Tryz.prog 209 [fmD f, sD n, tmD t] [fmD (subF n t f).1, bD (subF n t f).2] := by
 have hv := subF_eq n t f
 have HF := free_c f hf hw
 have HO := occurs_c f.var t (by omega)
 have HP := mapPartsP_of n t f 250 (fun x => (subF n t x).1) (fun x => (subF n t x).2) true (fun x hx b => sub1_of n t x _ _ b (H x hx)) (by have := atom_wt f; omega) (by have := f.wt_eq; omega)
 rw [Bool.true_and] at HP
 have HC := copyFormula_c f hw
 generalize putSs [] (vf f []) = V at hv HF
 simp only [fmD, fmC_eq f, tmD, tmC_eq t, fmC_mk] at HF HO HC HP ⊢
 refine FC_ofN Tryz.call209 Tryz.func209 rfl (by kernel_rfl) (by simp only [rd, List.map_cons, List.map_nil, List.length_cons, List.length_nil, Tryz.ntmps209]; omega) ?_
 simp -implicitDefEqProofs only [go_sem, Tryz.results209]
 cases hq : isQ f.op
 ·rw [hq, Bool.false_and, Bool.false_and, if_neg (by simp), if_neg (by simp)] at hv
  have HI := isQuantifier_c f.op
  rw [hq] at HI
  refine drawn (by kernel_rfl) ?_
  simp -implicitDefEqProofs only [go_sem]
  refine dCallF (HI) (by simp -implicitDefEqProofs only [go_sem]) ?_
  simp -implicitDefEqProofs only [go_sem]
  refine ⟨by kernel_rfl, ?_⟩
  refine callF (HI) (by simp -implicitDefEqProofs only [go_sem]) ?_
  simp -implicitDefEqProofs only [go_sem]
  have HA := apply_c n t ht f.atom (by have := atom_wt f; omega)
  have hS : sbS [(n, t)] = .sl 3 [[.str n, .str t.name, .sl 2 (t.args.map tmC)]] := by unfold sbS; rw [List.map_singleton, bnC_eq]
  rw [hS] at HA
  simp only [tmD, tmC_eq f.atom, tmC_eq (subT n t f.atom)] at HA
  cases h3 : f.op == 3
  ·rw [h3, if_neg (by simp)] at hv
   rw [hv]
   simp only [fmD, fmC_mk]
   refine callQ [4, 5, 8] (HP) (by decide) (by simp -implicitDefEqProofs only [go_sem, h3]) (by simp -implicitDefEqProofs only [go_sem, h3]) ?_
   simp -implicitDefEqProofs only [go_sem, h3]
   refine drawn (by kernel_rfl) ?_
   simp -implicitDefEqProofs only [go_sem]
   kernel_rfl
  ·rw [h3, if_pos rfl] at hv
   rw [hv]
   simp only [fmD, fmC_mk]
   refine callQ [4, 5, 8] (HP) (by decide) (by simp -implicitDefEqProofs only [go_sem, h3]) (by simp -implicitDefEqProofs only [go_sem, h3]) ?_
   simp -implicitDefEqProofs only [go_sem, h3]
   refine buildSc (by simp -implicitDefEqProofs only [go_sem]) ?_
   simp -implicitDefEqProofs only [go_sem]
   refine callF (HA) (by simp -implicitDefEqProofs only [go_sem]) ?_
   simp -implicitDefEqProofs only [go_sem]
   refine drawn (by kernel_rfl) ?_
   simp -implicitDefEqProofs only [go_sem]
   kernel_rfl
 ·have HI := isQuantifier_c f.op
  rw [hq] at HI
  rw [hq, Bool.true_and, Bool.true_and] at hv
  cases hvn : f.var == n
  ·rw [hvn, Bool.false_or] at hv
   have HCt := containsStr_c V n
   refine drawn (by kernel_rfl) ?_
   simp -implicitDefEqProofs only [go_sem]
   refine dCallF (HI) (by simp -implicitDefEqProofs only [go_sem, hvn]) ?_
   simp -implicitDefEqProofs only [go_sem, hvn]
   cases hcn : V.contains n
   ·rw [hcn, if_pos (by simp)] at hv
    rw [hcn] at HCt
    rw [hv]
    simp only [fmD, fmC_eq f]
    refine gCallF (HF) (by simp -implicitDefEqProofs only [go_sem]) ?_
    simp -implicitDefEqProofs only [go_sem]
    refine gCallF (HCt) (by simp -implicitDefEqProofs only [go_sem]) ?_
    simp -implicitDefEqProofs only [go_sem]
    refine ⟨by kernel_rfl, ?_⟩
    refine callF (HC) (by simp -implicitDefEqProofs only [go_sem]) ?_
    simp -implicitDefEqProofs only [go_sem]
   ·rw [hcn, if_neg (by simp)] at hv
    rw [hcn] at HCt
    refine gCallF (HF) (by simp -implicitDefEqProofs only [go_sem]) ?_
    simp -implicitDefEqProofs only [go_sem]
    refine gCallF (HCt) (by simp -implicitDefEqProofs only [go_sem]) ?_
    simp -implicitDefEqProofs only [go_sem]
    refine ⟨by kernel_rfl, ?_⟩
    refine callF (HI) (by simp -implicitDefEqProofs only [go_sem]) ?_
    simp -implicitDefEqProofs only [go_sem]
    have h3 : (f.op == 3) = false := by
     rw [beq_eq_false_iff_ne]
     intro e
     rw [e] at hq
     exact absurd hq (by decide)
    cases ho : decide (0 < cntN f.var t)
    ·rw [ho, if_neg (by simp), h3, if_neg (by simp)] at hv
     rw [ho] at HO
     rw [hv]
     simp only [fmD, fmC_mk]
     refine callF (HO) (by simp -implicitDefEqProofs only [go_sem]) ?_
     simp -implicitDefEqProofs only [go_sem]
     refine callQ [4, 5, 8] (HP) (by decide) (by simp -implicitDefEqProofs only [go_sem, h3]) (by simp -implicitDefEqProofs only [go_sem, h3]) ?_
     simp -implicitDefEqProofs only [go_sem, h3]
     refine drawn (by kernel_rfl) ?_
     simp -implicitDefEqProofs only [go_sem]
     kernel_rfl
    ·rw [ho, if_pos rfl] at hv
     rw [ho] at HO
     rw [hv]
     simp only [fmD, fmC_mkF, List.map_nil]
     refine callF (HO) (by simp -implicitDefEqProofs only [go_sem]) ?_
     simp -implicitDefEqProofs only [go_sem]
  ·rw [hvn, Bool.true_or, if_pos rfl] at hv
   refine drawn (by kernel_rfl) ?_
   simp -implicitDefEqProofs only [go_sem]
   rw [hv]
   simp only [fmD, fmC_eq f]
   refine dCallF (HI) (by simp -implicitDefEqProofs only [go_sem, hvn]) ?_
   simp -implicitDefEqProofs only [go_sem, hvn]
   refine ⟨by kernel_rfl, ?_⟩
   refine callF (HC) (by simp -implicitDefEqProofs only [go_sem]) ?_
   simp -implicitDefEqProofs only [go_sem]
theorem substituted_c (n : Str) (t : Tm) (ht : t.wt ≤ 1048576) : ∀ f : Fm, f.forms = true → f.wt ≤ 1048576 → FC Tryz.prog 209 [fmD f, sD n, tmD t] [fmD (subF n t f).1, bD (subF n t f).2] :=
 fm_ind fun o a v ps ih hf hw => substituted_of n t ht (.mk o a v ps) hf hw fun x hx => ih x hx (by rw [Fm.forms_eq, Bool.and_eq_true] at hf; exact List.all_eq_true.1 hf.2 x hx) (Nat.le_trans (fparts_wt (a := .mk o a v ps) hx) hw)
end Go.Proofs.YtbccfiillleimaaGreat
namespace Go.Proofs.YtbccfiillleimaaGreat
set_option linter.unusedSimpArgs false
set_option linter.unusedVariables false
set_option linter.unusedSectionVars false
set_option maxRecDepth 4000
open Go.RowKit
theorem l4Find_one (n : Str) (t : Tm) (x : Str) : FC Tryz.prog 216 [.agg [sbS [(n, t)]], sD x] [iD (if (n == x) = true then 0 else -1)] := by
 have hS : sbS [(n, t)] = .sl 3 [[.str n, .str t.name, .sl 2 (t.args.map tmC)]] := by unfold sbS; rw [List.map_singleton, bnC_eq]
 rw [hS]
 refine FC_of Tryz.call216 Tryz.func216 rfl (by kernel_rfl) (by simp only [rd, List.map_cons, List.map_nil, List.length_cons, List.length_nil, Tryz.ntmps216]; omega) ?_
 simp -implicitDefEqProofs only [go_sem, Tryz.results216]
 refine loop_rule (fun k : Nat => hd [(1, vT (.str x)), (2, .one (.bx 2 0)), (5, vI k)] [(2, [.t (.sl 3 [[.str n, .str t.name, .sl 2 (t.args.map tmC)]])])] []) (fun k => k = 0 ∨ (k = 1 ∧ (n == x) = false)) (fun k => 1 - k) 0 (weak_hd ?_) (Or.inl rfl) ?_
 ·simp -implicitDefEqProofs only [go_sem]
 ·rintro k (rfl | ⟨rfl, hn⟩)
  ·cases hn : n == x
   ·simp -implicitDefEqProofs only [go_sem, hn]
    refine ⟨1, Or.inr rfl, by decide, weak_hd ?_⟩
    have hz : IntKind.i64.wrap 1 = 1 := by decide
    simp -implicitDefEqProofs only [go_sem, hz]
   ·simp -implicitDefEqProofs only [go_sem, hn]
  ·simp -implicitDefEqProofs only [go_sem, hn]
theorem l4Put_one (n : Str) (t : Tm) (ht : t.wt ≤ 1048576) (hn : (t.name == n) = false) : FC Tryz.prog 180 [.agg [sbS []], sD n, tmD t] [.agg [sbS [(n, t)]]] := by
 have hS : sbS [(n, t)] = .sl 3 [[.str n, .str t.name, .sl 2 (t.args.map tmC)]] := by unfold sbS; rw [List.map_singleton, bnC_eq]
 have hS0 : sbS [] = .sl 3 [] := rfl
 have HK := l2Own_c t ht
 rw [hS, hS0]
 simp only [tmD, tmC_eq t] at HK ⊢
 refine FC_ofN Tryz.call180 Tryz.func180 rfl (by kernel_rfl) (by simp only [rd, List.map_cons, List.map_nil, List.length_cons, List.length_nil, Tryz.ntmps180]; omega) ?_
 simp -implicitDefEqProofs only [go_sem, Tryz.results180, hn]
 refine loop_rule (fun k : Nat => hd [(1, vT (.str n)), (3, .one (.bx 3 0)), (5, .one (.bx 5 0)), (6, .one (.bx 6 0)), (7, vI (0 : Nat))] [(3, [.rn (.sl 3 [])]), (5, [.t (.str t.name), .rn (.sl 2 (t.args.map tmC))]), (6, [.nl 3])] []) (fun k => k = 0) (fun k => 0) 0 (weak_hd ?_) rfl ?_
 ·simp -implicitDefEqProofs only [go_sem]
 ·rintro k rfl
  simp -implicitDefEqProofs only [go_sem]
  refine buildDc (by simp -implicitDefEqProofs only [go_sem]) ?_
  simp -implicitDefEqProofs only [go_sem]
  refine apD true (by simp -implicitDefEqProofs only [go_sem, ne_eq]) ?_
  simp -implicitDefEqProofs only [go_sem, ne_eq]
  refine callF (HK) (by simp -implicitDefEqProofs only [go_sem]) ?_
  simp -implicitDefEqProofs only [go_sem]
  refine buildDc (by simp -implicitDefEqProofs only [go_sem]) ?_
  simp -implicitDefEqProofs only [go_sem]
  refine apD true (by simp -implicitDefEqProofs only [go_sem, ne_eq]) ?_
  simp -implicitDefEqProofs only [go_sem, ne_eq]
  refine apD true (by simp -implicitDefEqProofs only [go_sem, ne_eq]) ?_
  simp -implicitDefEqProofs only [go_sem, ne_eq]
theorem l4Put_self (n : Str) (t : Tm) (hn : (t.name == n) = true) : RC Tryz.prog 180 [.agg [sbS []], sD n, tmD t] [.agg [sbS []]] := by
 have hS0 : sbS [] = .sl 3 [] := rfl
 rw [hS0]
 simp only [tmD, tmC_eq t]
 refine RC_of Tryz.call180 Tryz.func180 rfl (by kernel_rfl) (by simp only [rd, List.map_cons, List.map_nil, List.length_cons, List.length_nil, Tryz.ntmps180]; omega) ?_
 simp -implicitDefEqProofs only [go_sem, Tryz.results180, hn]
def putT (l : List (Str × Tm)) : Tm → Tm := Tm.fold fun m _ rs => if varOk m = true then (match l.find? fun p => p.1 == m with | some p => p.2 | none => .mk m []) else .mk m rs
theorem putT_eq (l : List (Str × Tm)) (a : Tm) : putT l a = if varOk a.name = true then (match l.find? fun p => p.1 == a.name with | some p => p.2 | none => .mk a.name []) else .mk a.name (a.args.map (putT l)) := by unfold putT; rw [Tm.fold_eq]
theorem l4Find_none (x : Str) : FC Tryz.prog 216 [.agg [sbS []], sD x] [iD (-1)] := by
 have hS : sbS [] = .sl 3 [] := rfl
 rw [hS]
 refine FC_of Tryz.call216 Tryz.func216 rfl (by kernel_rfl) (by simp only [rd, List.map_cons, List.map_nil, List.length_cons, List.length_nil, Tryz.ntmps216]; omega) ?_
 simp -implicitDefEqProofs only [go_sem, Tryz.results216]
 refine loop_rule (fun k : Nat => hd [(1, vT (.str x)), (2, .one (.bx 2 0)), (5, vI (0 : Nat))] [(2, [.t (.sl 3 [])])] []) (fun k => k = 0) (fun k => 0) 0 (weak_hd ?_) rfl ?_
 ·simp -implicitDefEqProofs only [go_sem]
 ·rintro k rfl
  simp -implicitDefEqProofs only [go_sem]
theorem l4Apply_of (l : List (Str × Tm)) (hl : l.length ≤ 1) (hw : ∀ p ∈ l, p.2.wt ≤ 1048576) (a : Tm) (ha : a.args.length ≤ 1048576) (H : ∀ x ∈ a.args, FC Tryz.prog 179 [.agg [sbS l], tmD x] [tmD (putT l x)]) : FC Tryz.prog 179 [.agg [sbS l], tmD a] [tmD (putT l a)] := by
 have hv := putT_eq l a
 have HV := l2Var_c a.name
 cases hva : varOk a.name
 ·rw [hva, if_neg (by simp)] at hv
  rw [hva] at HV
  rw [hv]
  have e1 : tmD (.mk a.name (a.args.map (putT l))) = .agg [.str a.name, .sl 2 (a.args.map fun x => tmC (putT l x))] := by unfold tmD; rw [tmC_eq]; simp only [Tm.name, Tm.args, List.map_map, Function.comp_def]
  rw [e1]
  simp only [tmD, tmC_eq a] at H ⊢
  unfold sbS at H ⊢
  generalize l.map bnC = L at H ⊢
  refine FC_of Tryz.call179 Tryz.func179 rfl (by kernel_rfl) (by simp only [rd, List.map_cons, List.map_nil, List.length_cons, List.length_nil, Tryz.ntmps179]; omega) ?_
  simp -implicitDefEqProofs only [go_sem, Tryz.results179]
  refine callF (HV) (by simp -implicitDefEqProofs only [go_sem]) ?_
  simp -implicitDefEqProofs only [go_sem]
  refine loop_rule (fun k : Nat => hd [(2, .one (.bx 2 0)), (3, .one (.bx 3 0)), (4, .one (.bx 4 0)), (6, .one (.bx 6 0)), (7, vI k)] [(2, [.t (.sl 3 L)]), (3, [.t (.str a.name), .t (tmS a.args)]), (4, [.t (.str []), .nl 2]), (6, [.t (.str a.name), .ow 3000 0])] [(3000, ⟨true, 2, (a.args.take k).map fun x => tmC (putT l x), 0, true⟩)]) (fun k => k ≤ a.args.length) (fun k => a.args.length - k) 0 (weak_hd ?_) (Nat.zero_le _) ?_
  ·simp -implicitDefEqProofs only [go_sem]
  ·intro k hk
   by_cases hlt : k < a.args.length
   ·have HC := H a.args[k] (List.getElem_mem hlt)
    have hmin : min k a.args.length ≤ 4294967295 := by omega
    simp only [tmC_eq a.args[k], tmC_eq (putT l a.args[k])] at HC
    simp -implicitDefEqProofs only [go_sem, hlt]
    refine drawn (by kernel_rfl) ?_
    simp -implicitDefEqProofs only [go_sem, getD_at, hlt, tmC_eq a.args[k]]
    refine dCallF (HC) (by simp -implicitDefEqProofs only [go_sem]) ?_
    simp -implicitDefEqProofs only [go_sem]
    refine dBuildDc (by simp -implicitDefEqProofs only [go_sem]) ?_
    simp -implicitDefEqProofs only [go_sem]
    refine dApD true (by simp -implicitDefEqProofs only [go_sem, ne_eq, List.length_map, List.length_take, hmin]) ?_
    simp -implicitDefEqProofs only [go_sem, ne_eq, List.length_map, List.length_take, hmin]
    refine ⟨by kernel_rfl, k + 1, hlt, by omega, weak_hd ?_⟩
    simp -implicitDefEqProofs only [go_sem]
    rw [wrap_s (by omega), List.take_succ_eq_append_getElem hlt, List.map_append, List.map_singleton]
    simp only [tmC_eq]
    trivial
   ·have ht : a.args.take k = a.args := List.take_of_length_le (by omega)
    simp -implicitDefEqProofs only [go_sem, hlt, ht]
 ·rw [hva, if_pos rfl] at hv
  rw [hva] at HV
  rw [hv]
  match l, hl with
  | [], _ =>
   have HN := l4Find_none a.name
   simp only [List.find?_nil]
   have e1 : tmD (.mk a.name []) = .agg [.str a.name, .sl 2 []] := rfl
   have hS : sbS [] = .sl 3 [] := rfl
   rw [hS] at HN ⊢
   rw [e1]
   simp only [tmD, tmC_eq a]
   refine FC_of Tryz.call179 Tryz.func179 rfl (by kernel_rfl) (by simp only [rd, List.map_cons, List.map_nil, List.length_cons, List.length_nil, Tryz.ntmps179]; omega) ?_
   simp -implicitDefEqProofs only [go_sem, Tryz.results179]
   refine callF (HV) (by simp -implicitDefEqProofs only [go_sem]) ?_
   simp -implicitDefEqProofs only [go_sem]
   refine callF (HN) (by simp -implicitDefEqProofs only [go_sem]) ?_
   simp -implicitDefEqProofs only [go_sem]
  | [(n, t)], _ =>
   have HO := l4Find_one n t a.name
   have HK := l2Own_c t (hw (n, t) (by simp))
   have hS : sbS [(n, t)] = .sl 3 [[.str n, .str t.name, .sl 2 (t.args.map tmC)]] := by unfold sbS; rw [List.map_singleton, bnC_eq]
   rw [hS] at HO ⊢
   cases hn : n == a.name
   ·rw [hn] at HO
    simp only [List.find?_cons, hn, List.find?_nil]
    have e1 : tmD (.mk a.name []) = .agg [.str a.name, .sl 2 []] := rfl
    rw [e1]
    simp only [tmD, tmC_eq a]
    refine FC_of Tryz.call179 Tryz.func179 rfl (by kernel_rfl) (by simp only [rd, List.map_cons, List.map_nil, List.length_cons, List.length_nil, Tryz.ntmps179]; omega) ?_
    simp -implicitDefEqProofs only [go_sem, Tryz.results179]
    refine callF (HV) (by simp -implicitDefEqProofs only [go_sem]) ?_
    simp -implicitDefEqProofs only [go_sem]
    refine callF (HO) (by simp -implicitDefEqProofs only [go_sem]) ?_
    simp -implicitDefEqProofs only [go_sem]
   ·rw [hn] at HO
    simp only [List.find?_cons, hn]
    simp only [tmD, tmC_eq a, tmC_eq t] at HK ⊢
    refine FC_of Tryz.call179 Tryz.func179 rfl (by kernel_rfl) (by simp only [rd, List.map_cons, List.map_nil, List.length_cons, List.length_nil, Tryz.ntmps179]; omega) ?_
    simp -implicitDefEqProofs only [go_sem, Tryz.results179]
    refine callF (HV) (by simp -implicitDefEqProofs only [go_sem]) ?_
    simp -implicitDefEqProofs only [go_sem]
    refine callF (HO) (by simp -implicitDefEqProofs only [go_sem]) ?_
    simp -implicitDefEqProofs only [go_sem]
    refine callF (HK) (by simp -implicitDefEqProofs only [go_sem]) ?_
    simp -implicitDefEqProofs only [go_sem]
theorem l4Apply_c (l : List (Str × Tm)) (hl : l.length ≤ 1) (hw : ∀ p ∈ l, p.2.wt ≤ 1048576) : ∀ a : Tm, a.wt ≤ 1048576 → FC Tryz.prog 179 [.agg [sbS l], tmD a] [tmD (putT l a)] :=
 tm_ind fun m xs ih hs => by
  obtain ⟨h1, h2⟩ := Tm.wt_args hs
  exact l4Apply_of l hl hw (.mk m xs) h1 fun x hx => ih x hx (h2 x hx)
end Go.Proofs.YtbccfiillleimaaGreat
namespace Go.Proofs.YtbccfiillleimaaGreat
set_option linter.unusedSimpArgs false
set_option linter.unusedVariables false
set_option linter.unusedSectionVars false
set_option maxRecDepth 4000
open Go.RowKit
def bnd (n : Str) (t : Tm) : List (Str × Tm) := if (t.name == n) = true then [] else [(n, t)]
def frees (ps : List Fm) : List Str := match ps with
 | p :: _ => putSs [] (vf p [])
 | [] => []
def putF (n : Str) (t : Tm) : Fm → Fm × Bool := Fm.fold fun o a v ps rs =>
 if (o == 3) = true then (.mk o (putT (bnd n t) a) v [], (putT (bnd n t) a).atomOk)
 else if (isQ o && (v == n || !((frees ps).contains n))) = true then (.mk o a v ps, true)
 else if (isQ o && (putSs [] (voS t)).contains v) = true then (.mk o (.mk [] []) v [], false)
 else (.mk o (.mk [] []) v ((rs.takeWhile Prod.snd).map Prod.fst), rs.all Prod.snd)
theorem tw_map {α β : Type} (p : β → Bool) (f : α → β) : ∀ xs : List α, (xs.map f).takeWhile p = (xs.takeWhile fun x => p (f x)).map f
 | [] => rfl
 | x :: xs => by
  simp only [List.map_cons, List.takeWhile_cons]
  cases p (f x)
  ·rfl
  ·simp only [if_true, List.map_cons, tw_map p f xs]
theorem putF_eq (n : Str) (t : Tm) (f : Fm) : putF n t f = if (f.op == 3) = true then (.mk f.op (putT (bnd n t) f.atom) f.var [], (putT (bnd n t) f.atom).atomOk)
  else if (isQ f.op && (f.var == n || !((frees f.parts).contains n))) = true then (f, true)
  else if (isQ f.op && (putSs [] (voS t)).contains f.var) = true then (.mk f.op (.mk [] []) f.var [], false)
  else (.mk f.op (.mk [] []) f.var ((f.parts.takeWhile fun x => (putF n t x).2).map fun x => (putF n t x).1), f.parts.all fun x => (putF n t x).2) := by
 cases f with
 | mk o a v ps =>
  conv => lhs; unfold putF; rw [Fm.fold_eq]
  simp only [tw_map, List.map_map, List.all_map]
  rfl
theorem q_parts {f : Fm} (h : isQ f.op = true) (hf : f.forms = true) : ∃ p, f.parts = [p] ∧ p.forms = true := by
 rw [Fm.forms_eq, Bool.and_eq_true] at hf
 have h1 := hf.1
 unfold Fm.here at h1
 have h2 : (f.op == 1 || f.op == 2) = false ∧ (f.op == 3) = false ∧ (f.op == 4) = false ∧ isBi f.op = false := by
  have h8 : f.op = 8 ∨ f.op = 9 := by unfold isQ at h; rw [Bool.or_eq_true, beq_iff_eq, beq_iff_eq] at h; exact h
  rcases h8 with e | e <;> rw [e] <;> decide
 rw [h2.1, h2.2.1, h2.2.2.1, h2.2.2.2, h] at h1
 simp only [Bool.false_eq_true, if_false, if_true, Bool.and_eq_true, decide_eq_true_eq] at h1
 obtain ⟨p, hp⟩ := List.length_eq_one_iff.1 h1.1.1
 exact ⟨p, hp, List.all_eq_true.1 hf.2 p (by rw [hp]; simp)⟩
theorem bnd_len (n : Str) (t : Tm) : (bnd n t).length ≤ 1 := by unfold bnd; split <;> simp
theorem bnd_wt (n : Str) (t : Tm) (ht : t.wt ≤ 1048576) : ∀ p ∈ bnd n t, p.2.wt ≤ 1048576 := by
 unfold bnd
 split
 ·simp
 ·intro p hp; simp at hp; rw [hp]; exact ht
set_option maxHeartbeats 2000000 in
theorem l8Put_of (n : Str) (t : Tm) (ht : t.wt ≤ 1048576) (f : Fm) (hf : f.forms = true) (hw : f.wt ≤ 1048576) (hwa : (putT (bnd n t) f.atom).wt ≤ 1099511627776) (H : ∀ x ∈ f.parts, FC Tryz.prog 114 [fmD x, sD n, tmD t] [fmD (putF n t x).1, bD (putF n t x).2]) :
  FC Tryz.prog 114 [fmD f, sD n, tmD t] [fmD (putF n t f).1, bD (putF n t f).2] := by
 have hv := putF_eq n t f
 have hfl : f.parts.length ≤ 1048576 := by have := f.wt_eq; omega
 cases h3 : f.op == 3
 ·rw [h3, if_neg (by simp)] at hv
  cases hq : isQ f.op
  ·rw [hq, Bool.false_and, if_neg (by simp), Bool.false_and, if_neg (by simp)] at hv
   have hq8 : (f.op == 8) = false ∧ (f.op == 9) = false := by unfold isQ at hq; rw [Bool.or_eq_false_iff] at hq; exact hq
   simp only [fmD, fmC_eq f, tmD, tmC_eq t]
   refine FC_of Tryz.call114 Tryz.func114 rfl (by kernel_rfl) (by simp only [rd, List.map_cons, List.map_nil, List.length_cons, List.length_nil, Tryz.ntmps114]; omega) ?_
   simp -implicitDefEqProofs only [go_sem, Tryz.results114, h3, hq8.1, hq8.2]
   refine loop_rule (fun k : Nat => hd [(1, vT (.str n)), (3, .one (.bx 3 0)), (5, .one (.bx 5 0)), (6, .one (.bx 6 0)), (8, .one (.bx 8 0)), (9, vI k)] [(3, [.t (.int .i64 f.op), .t (.str f.atom.name), .t (tmS f.atom.args), .t (.str f.var), .t (fmS f.parts)]), (5, [.t (.str t.name), .t (tmS t.args)]), (6, [.t (.int .i64 0), .t (.str []), .nl 2, .t (.str []), .nl 5]), (8, [.t (.int .i64 f.op), .t (.str []), .nl 2, .t (.str f.var), .ow 8000 0])] [(8000, ⟨true, 5, (f.parts.take k).map fun x => fmC (putF n t x).1, 0, true⟩)]) (fun k => k ≤ f.parts.length ∧ ∀ x ∈ f.parts.take k, (putF n t x).2 = true) (fun k => f.parts.length - k) 0 (weak_hd ?_) ⟨Nat.zero_le _, by simp⟩ ?_
   ·simp -implicitDefEqProofs only [go_sem]
   ·rintro k ⟨hk, hT⟩
    by_cases hlt : k < f.parts.length
    ·have HC := H f.parts[k] (List.getElem_mem hlt)
     have hmin : min k f.parts.length ≤ 4294967295 := by omega
     simp only [fmD, fmC_eq f.parts[k], fmC_eq (putF n t f.parts[k]).1, tmD, tmC_eq t] at HC
     cases hk2 : (putF n t f.parts[k]).2
     ·rw [hk2] at HC
      have htw := (takeW_at (p := fun x => (putF n t x).2) hk hT fun _ => hk2).1
      have hall : (f.parts.all fun x => (putF n t x).2) = false := by rw [List.all_eq_false]; exact ⟨_, List.getElem_mem hlt, by rw [hk2]; simp⟩
      rw [htw, hall] at hv
      rw [hv]
      simp -implicitDefEqProofs only [go_sem, hlt]
      refine drawn (by kernel_rfl) ?_
      simp -implicitDefEqProofs only [go_sem, getD_at, hlt, fmC_eq f.parts[k]]
      refine dCallF (HC) (by simp -implicitDefEqProofs only [go_sem]) ?_
      simp -implicitDefEqProofs only [go_sem]
      refine ⟨by kernel_rfl, ?_⟩
      simp -implicitDefEqProofs only [go_sem, fmC_mk, List.map_map, Function.comp_def]
      exact ⟨rfl, rfl⟩
     ·rw [hk2] at HC
      simp -implicitDefEqProofs only [go_sem, hlt]
      refine drawn (by kernel_rfl) ?_
      simp -implicitDefEqProofs only [go_sem, getD_at, hlt, fmC_eq f.parts[k]]
      refine dCallF (HC) (by simp -implicitDefEqProofs only [go_sem]) ?_
      simp -implicitDefEqProofs only [go_sem]
      refine ⟨by kernel_rfl, ?_⟩
      refine buildDc (by simp -implicitDefEqProofs only [go_sem]) ?_
      simp -implicitDefEqProofs only [go_sem]
      refine apD true (by simp -implicitDefEqProofs only [go_sem, ne_eq, List.length_map, List.length_take, hmin]) ?_
      simp -implicitDefEqProofs only [go_sem, ne_eq, List.length_map, List.length_take, hmin]
      refine ⟨k + 1, ⟨hlt, fun x hx => ?_⟩, by omega, weak_hd ?_⟩
      ·rw [List.take_succ_eq_append_getElem hlt] at hx
       rcases List.mem_append.1 hx with hx | hx
       ·exact hT x hx
       ·rw [List.mem_singleton] at hx; subst hx; exact hk2
      ·simp -implicitDefEqProofs only [go_sem]
       rw [wrap_s (by omega), List.take_succ_eq_append_getElem hlt, List.map_append, List.map_singleton]
       simp only [fmC_eq]
       trivial
    ·have htk : f.parts.take k = f.parts := List.take_of_length_le (by omega)
     rw [htk] at hT
     have hall : (f.parts.all fun x => (putF n t x).2) = true := List.all_eq_true.2 hT
     have htw : (f.parts.takeWhile fun x => (putF n t x).2) = f.parts := by
      have := (takeW_at (l := f.parts) (p := fun x => (putF n t x).2) (k := f.parts.length) (Nat.le_refl _) (by rw [List.take_length]; exact hT) fun h => absurd h (Nat.lt_irrefl _)).1
      rw [this, List.take_length]
     rw [htw, hall] at hv
     rw [hv]
     simp -implicitDefEqProofs only [go_sem, hlt, htk, fmC_mk, List.map_map, Function.comp_def]
     exact ⟨rfl, rfl⟩
  ·obtain ⟨q, hp, hpf⟩ := q_parts hq hf
   have key : (f.op == 8) = true ∨ ((f.op == 8) = false ∧ (f.op == 9) = true) := by
    have hq8 := hq
    unfold isQ at hq8
    cases h8 : f.op == 8
    ·rw [h8, Bool.false_or] at hq8; exact Or.inr ⟨rfl, hq8⟩
    ·exact Or.inl rfl
   have HFr := l8Free_c q hpf (by have := f.wt_eq; rw [hp] at this; simp only [List.map_cons, List.map_nil, List.sum_cons, List.sum_nil] at this; omega)
   have HOw := l8Own_c f hw
   have hfr : frees f.parts = putSs [] (vf q []) := by rw [hp]; rfl
   rw [hfr] at hv
   generalize putSs [] (vf q []) = V at hv HFr
   have HIn := l2In_c V n
   have hvl := voS_len t
   have HVs := l2Vars_c t (by omega) (by omega)
   generalize putSs [] (voS t) = TV at hv HVs
   have HIt := l2In_c TV f.var
   rw [hq, Bool.true_and, Bool.true_and] at hv
   have hp0 : f.parts.length = 1 := by rw [hp]; rfl
   have e0 : (List.map fmC f.parts).getD 0 [] = fmC q := by rw [hp]; rfl
   cases hvn : f.var == n
   ·rw [hvn, Bool.false_or] at hv
    cases hcn : V.contains n
    ·rw [hcn, if_pos (by simp)] at hv
     rw [hcn] at HIn
     rw [hv]
     simp only [fmD, fmC_eq f, tmD, tmC_eq t, fmC_eq q] at HOw HFr ⊢
     rcases key with e8 | ⟨e8, e9⟩
     ·refine FC_of Tryz.call114 Tryz.func114 rfl (by kernel_rfl) (by simp only [rd, List.map_cons, List.map_nil, List.length_cons, List.length_nil, Tryz.ntmps114]; omega) ?_
      simp -implicitDefEqProofs only [go_sem, Tryz.results114, h3, e8, hvn, hp0, e0, fmC_eq q]
      refine callF (HFr) (by simp -implicitDefEqProofs only [go_sem]) ?_
      simp -implicitDefEqProofs only [go_sem]
      refine callF (HIn) (by simp -implicitDefEqProofs only [go_sem]) ?_
      simp -implicitDefEqProofs only [go_sem]
      refine callF (HOw) (by simp -implicitDefEqProofs only [go_sem]) ?_
      simp -implicitDefEqProofs only [go_sem]
     ·refine FC_of Tryz.call114 Tryz.func114 rfl (by kernel_rfl) (by simp only [rd, List.map_cons, List.map_nil, List.length_cons, List.length_nil, Tryz.ntmps114]; omega) ?_
      simp -implicitDefEqProofs only [go_sem, Tryz.results114, h3, e8, e9, hvn, hp0, e0, fmC_eq q]
      refine callF (HFr) (by simp -implicitDefEqProofs only [go_sem]) ?_
      simp -implicitDefEqProofs only [go_sem]
      refine callF (HIn) (by simp -implicitDefEqProofs only [go_sem]) ?_
      simp -implicitDefEqProofs only [go_sem]
      refine callF (HOw) (by simp -implicitDefEqProofs only [go_sem]) ?_
      simp -implicitDefEqProofs only [go_sem]
    ·rw [hcn, if_neg (by simp)] at hv
     rw [hcn] at HIn
     cases hti : TV.contains f.var
     ·rw [hti, if_neg (by simp)] at hv
      rw [hti] at HIt
      simp only [fmD, fmC_eq f, tmD, tmC_eq t, fmC_eq q] at HVs HFr ⊢
      rcases key with e8 | ⟨e8, e9⟩
      ·refine FC_of Tryz.call114 Tryz.func114 rfl (by kernel_rfl) (by simp only [rd, List.map_cons, List.map_nil, List.length_cons, List.length_nil, Tryz.ntmps114]; omega) ?_
       simp -implicitDefEqProofs only [go_sem, Tryz.results114, h3, e8, hvn, hp0, e0, fmC_eq q]
       refine callF (HFr) (by simp -implicitDefEqProofs only [go_sem]) ?_
       simp -implicitDefEqProofs only [go_sem]
       refine callF (HIn) (by simp -implicitDefEqProofs only [go_sem]) ?_
       simp -implicitDefEqProofs only [go_sem]
       refine drawn (by kernel_rfl) ?_
       simp -implicitDefEqProofs only [go_sem]
       refine dCallF (HVs) (by simp -implicitDefEqProofs only [go_sem]) ?_
       simp -implicitDefEqProofs only [go_sem]
       refine dCallF (HIt) (by simp -implicitDefEqProofs only [go_sem]) ?_
       simp -implicitDefEqProofs only [go_sem]
       refine ⟨by kernel_rfl, ?_⟩
       refine loop_rule (fun k : Nat => hd [(1, vT (.str n)), (3, .one (.bx 3 0)), (5, .one (.bx 5 0)), (6, .one (.bx 6 0)), (8, .one (.bx 8 0)), (9, vI k)] [(3, [.t (.int .i64 f.op), .t (.str f.atom.name), .t (tmS f.atom.args), .t (.str f.var), .t (fmS f.parts)]), (5, [.t (.str t.name), .t (tmS t.args)]), (6, [.t (.int .i64 0), .t (.str []), .nl 2, .t (.str []), .nl 5]), (8, [.t (.int .i64 f.op), .t (.str []), .nl 2, .t (.str f.var), .ow 8000 0])] [(8000, ⟨true, 5, (f.parts.take k).map fun x => fmC (putF n t x).1, 0, true⟩)]) (fun k => k ≤ f.parts.length ∧ ∀ x ∈ f.parts.take k, (putF n t x).2 = true) (fun k => f.parts.length - k) 0 (weak_hd ?_) ⟨Nat.zero_le _, by simp⟩ ?_
       ·simp -implicitDefEqProofs only [go_sem]
       ·rintro k ⟨hk, hT⟩
        by_cases hlt : k < f.parts.length
        ·have HC := H f.parts[k] (List.getElem_mem hlt)
         have hmin : min k f.parts.length ≤ 4294967295 := by omega
         simp only [fmD, fmC_eq f.parts[k], fmC_eq (putF n t f.parts[k]).1, tmD, tmC_eq t] at HC
         cases hk2 : (putF n t f.parts[k]).2
         ·rw [hk2] at HC
          have htw := (takeW_at (p := fun x => (putF n t x).2) hk hT fun _ => hk2).1
          have hall : (f.parts.all fun x => (putF n t x).2) = false := by rw [List.all_eq_false]; exact ⟨_, List.getElem_mem hlt, by rw [hk2]; simp⟩
          rw [htw, hall] at hv
          rw [hv]
          simp -implicitDefEqProofs only [go_sem, hlt]
          refine drawn (by kernel_rfl) ?_
          simp -implicitDefEqProofs only [go_sem, getD_at, hlt, fmC_eq f.parts[k]]
          refine dCallF (HC) (by simp -implicitDefEqProofs only [go_sem]) ?_
          simp -implicitDefEqProofs only [go_sem]
          refine ⟨by kernel_rfl, ?_⟩
          simp -implicitDefEqProofs only [go_sem, fmC_mk, List.map_map, Function.comp_def]
          exact ⟨rfl, rfl⟩
         ·rw [hk2] at HC
          simp -implicitDefEqProofs only [go_sem, hlt]
          refine drawn (by kernel_rfl) ?_
          simp -implicitDefEqProofs only [go_sem, getD_at, hlt, fmC_eq f.parts[k]]
          refine dCallF (HC) (by simp -implicitDefEqProofs only [go_sem]) ?_
          simp -implicitDefEqProofs only [go_sem]
          refine ⟨by kernel_rfl, ?_⟩
          refine buildDc (by simp -implicitDefEqProofs only [go_sem]) ?_
          simp -implicitDefEqProofs only [go_sem]
          refine apD true (by simp -implicitDefEqProofs only [go_sem, ne_eq, List.length_map, List.length_take, hmin]) ?_
          simp -implicitDefEqProofs only [go_sem, ne_eq, List.length_map, List.length_take, hmin]
          refine ⟨k + 1, ⟨hlt, fun x hx => ?_⟩, by omega, weak_hd ?_⟩
          ·rw [List.take_succ_eq_append_getElem hlt] at hx
           rcases List.mem_append.1 hx with hx | hx
           ·exact hT x hx
           ·rw [List.mem_singleton] at hx; subst hx; exact hk2
          ·simp -implicitDefEqProofs only [go_sem]
           rw [wrap_s (by omega), List.take_succ_eq_append_getElem hlt, List.map_append, List.map_singleton]
           simp only [fmC_eq]
           trivial
        ·have htk : f.parts.take k = f.parts := List.take_of_length_le (by omega)
         rw [htk] at hT
         have hall : (f.parts.all fun x => (putF n t x).2) = true := List.all_eq_true.2 hT
         have htw : (f.parts.takeWhile fun x => (putF n t x).2) = f.parts := by
          have := (takeW_at (l := f.parts) (p := fun x => (putF n t x).2) (k := f.parts.length) (Nat.le_refl _) (by rw [List.take_length]; exact hT) fun h => absurd h (Nat.lt_irrefl _)).1
          rw [this, List.take_length]
         rw [htw, hall] at hv
         rw [hv]
         simp -implicitDefEqProofs only [go_sem, hlt, htk, fmC_mk, List.map_map, Function.comp_def]
         exact ⟨rfl, rfl⟩
      ·refine FC_of Tryz.call114 Tryz.func114 rfl (by kernel_rfl) (by simp only [rd, List.map_cons, List.map_nil, List.length_cons, List.length_nil, Tryz.ntmps114]; omega) ?_
       simp -implicitDefEqProofs only [go_sem, Tryz.results114, h3, e8, e9, hvn, hp0, e0, fmC_eq q]
       refine callF (HFr) (by simp -implicitDefEqProofs only [go_sem]) ?_
       simp -implicitDefEqProofs only [go_sem]
       refine callF (HIn) (by simp -implicitDefEqProofs only [go_sem]) ?_
       simp -implicitDefEqProofs only [go_sem]
       refine drawn (by kernel_rfl) ?_
       simp -implicitDefEqProofs only [go_sem]
       refine dCallF (HVs) (by simp -implicitDefEqProofs only [go_sem]) ?_
       simp -implicitDefEqProofs only [go_sem]
       refine dCallF (HIt) (by simp -implicitDefEqProofs only [go_sem]) ?_
       simp -implicitDefEqProofs only [go_sem]
       refine ⟨by kernel_rfl, ?_⟩
       refine loop_rule (fun k : Nat => hd [(1, vT (.str n)), (3, .one (.bx 3 0)), (5, .one (.bx 5 0)), (6, .one (.bx 6 0)), (8, .one (.bx 8 0)), (9, vI k)] [(3, [.t (.int .i64 f.op), .t (.str f.atom.name), .t (tmS f.atom.args), .t (.str f.var), .t (fmS f.parts)]), (5, [.t (.str t.name), .t (tmS t.args)]), (6, [.t (.int .i64 0), .t (.str []), .nl 2, .t (.str []), .nl 5]), (8, [.t (.int .i64 f.op), .t (.str []), .nl 2, .t (.str f.var), .ow 8000 0])] [(8000, ⟨true, 5, (f.parts.take k).map fun x => fmC (putF n t x).1, 0, true⟩)]) (fun k => k ≤ f.parts.length ∧ ∀ x ∈ f.parts.take k, (putF n t x).2 = true) (fun k => f.parts.length - k) 0 (weak_hd ?_) ⟨Nat.zero_le _, by simp⟩ ?_
       ·simp -implicitDefEqProofs only [go_sem]
       ·rintro k ⟨hk, hT⟩
        by_cases hlt : k < f.parts.length
        ·have HC := H f.parts[k] (List.getElem_mem hlt)
         have hmin : min k f.parts.length ≤ 4294967295 := by omega
         simp only [fmD, fmC_eq f.parts[k], fmC_eq (putF n t f.parts[k]).1, tmD, tmC_eq t] at HC
         cases hk2 : (putF n t f.parts[k]).2
         ·rw [hk2] at HC
          have htw := (takeW_at (p := fun x => (putF n t x).2) hk hT fun _ => hk2).1
          have hall : (f.parts.all fun x => (putF n t x).2) = false := by rw [List.all_eq_false]; exact ⟨_, List.getElem_mem hlt, by rw [hk2]; simp⟩
          rw [htw, hall] at hv
          rw [hv]
          simp -implicitDefEqProofs only [go_sem, hlt]
          refine drawn (by kernel_rfl) ?_
          simp -implicitDefEqProofs only [go_sem, getD_at, hlt, fmC_eq f.parts[k]]
          refine dCallF (HC) (by simp -implicitDefEqProofs only [go_sem]) ?_
          simp -implicitDefEqProofs only [go_sem]
          refine ⟨by kernel_rfl, ?_⟩
          simp -implicitDefEqProofs only [go_sem, fmC_mk, List.map_map, Function.comp_def]
          exact ⟨rfl, rfl⟩
         ·rw [hk2] at HC
          simp -implicitDefEqProofs only [go_sem, hlt]
          refine drawn (by kernel_rfl) ?_
          simp -implicitDefEqProofs only [go_sem, getD_at, hlt, fmC_eq f.parts[k]]
          refine dCallF (HC) (by simp -implicitDefEqProofs only [go_sem]) ?_
          simp -implicitDefEqProofs only [go_sem]
          refine ⟨by kernel_rfl, ?_⟩
          refine buildDc (by simp -implicitDefEqProofs only [go_sem]) ?_
          simp -implicitDefEqProofs only [go_sem]
          refine apD true (by simp -implicitDefEqProofs only [go_sem, ne_eq, List.length_map, List.length_take, hmin]) ?_
          simp -implicitDefEqProofs only [go_sem, ne_eq, List.length_map, List.length_take, hmin]
          refine ⟨k + 1, ⟨hlt, fun x hx => ?_⟩, by omega, weak_hd ?_⟩
          ·rw [List.take_succ_eq_append_getElem hlt] at hx
           rcases List.mem_append.1 hx with hx | hx
           ·exact hT x hx
           ·rw [List.mem_singleton] at hx; subst hx; exact hk2
          ·simp -implicitDefEqProofs only [go_sem]
           rw [wrap_s (by omega), List.take_succ_eq_append_getElem hlt, List.map_append, List.map_singleton]
           simp only [fmC_eq]
           trivial
        ·have htk : f.parts.take k = f.parts := List.take_of_length_le (by omega)
         rw [htk] at hT
         have hall : (f.parts.all fun x => (putF n t x).2) = true := List.all_eq_true.2 hT
         have htw : (f.parts.takeWhile fun x => (putF n t x).2) = f.parts := by
          have := (takeW_at (l := f.parts) (p := fun x => (putF n t x).2) (k := f.parts.length) (Nat.le_refl _) (by rw [List.take_length]; exact hT) fun h => absurd h (Nat.lt_irrefl _)).1
          rw [this, List.take_length]
         rw [htw, hall] at hv
         rw [hv]
         simp -implicitDefEqProofs only [go_sem, hlt, htk, fmC_mk, List.map_map, Function.comp_def]
         exact ⟨rfl, rfl⟩
     ·rw [hti, if_pos rfl] at hv
      rw [hti] at HIt
      rw [hv]
      have e5 : fmD (.mk f.op (.mk [] []) f.var []) = .agg [.int .i64 f.op, .str [], .sl 2 [], .str f.var, .sl 5 []] := by unfold fmD; rw [fmC_eq]; rfl
      rw [e5]
      simp only [fmD, fmC_eq f, tmD, tmC_eq t, fmC_eq q] at HVs HFr ⊢
      rcases key with e8 | ⟨e8, e9⟩
      ·refine FC_of Tryz.call114 Tryz.func114 rfl (by kernel_rfl) (by simp only [rd, List.map_cons, List.map_nil, List.length_cons, List.length_nil, Tryz.ntmps114]; omega) ?_
       simp -implicitDefEqProofs only [go_sem, Tryz.results114, h3, e8, hvn, hp0, e0, fmC_eq q]
       refine callF (HFr) (by simp -implicitDefEqProofs only [go_sem]) ?_
       simp -implicitDefEqProofs only [go_sem]
       refine callF (HIn) (by simp -implicitDefEqProofs only [go_sem]) ?_
       simp -implicitDefEqProofs only [go_sem]
       refine drawn (by kernel_rfl) ?_
       simp -implicitDefEqProofs only [go_sem]
       refine dCallF (HVs) (by simp -implicitDefEqProofs only [go_sem]) ?_
       simp -implicitDefEqProofs only [go_sem]
       refine dCallF (HIt) (by simp -implicitDefEqProofs only [go_sem]) ?_
       simp -implicitDefEqProofs only [go_sem]
       kernel_rfl
      ·refine FC_of Tryz.call114 Tryz.func114 rfl (by kernel_rfl) (by simp only [rd, List.map_cons, List.map_nil, List.length_cons, List.length_nil, Tryz.ntmps114]; omega) ?_
       simp -implicitDefEqProofs only [go_sem, Tryz.results114, h3, e8, e9, hvn, hp0, e0, fmC_eq q]
       refine callF (HFr) (by simp -implicitDefEqProofs only [go_sem]) ?_
       simp -implicitDefEqProofs only [go_sem]
       refine callF (HIn) (by simp -implicitDefEqProofs only [go_sem]) ?_
       simp -implicitDefEqProofs only [go_sem]
       refine drawn (by kernel_rfl) ?_
       simp -implicitDefEqProofs only [go_sem]
       refine dCallF (HVs) (by simp -implicitDefEqProofs only [go_sem]) ?_
       simp -implicitDefEqProofs only [go_sem]
       refine dCallF (HIt) (by simp -implicitDefEqProofs only [go_sem]) ?_
       simp -implicitDefEqProofs only [go_sem]
       kernel_rfl
   ·rw [hvn, Bool.true_or, if_pos rfl] at hv
    rw [hv]
    simp only [fmD, fmC_eq f, tmD, tmC_eq t] at HOw ⊢
    rcases key with e8 | ⟨e8, e9⟩
    ·refine FC_of Tryz.call114 Tryz.func114 rfl (by kernel_rfl) (by simp only [rd, List.map_cons, List.map_nil, List.length_cons, List.length_nil, Tryz.ntmps114]; omega) ?_
     simp -implicitDefEqProofs only [go_sem, Tryz.results114, h3, e8, hvn]
     refine callF (HOw) (by simp -implicitDefEqProofs only [go_sem]) ?_
     simp -implicitDefEqProofs only [go_sem]
    ·refine FC_of Tryz.call114 Tryz.func114 rfl (by kernel_rfl) (by simp only [rd, List.map_cons, List.map_nil, List.length_cons, List.length_nil, Tryz.ntmps114]; omega) ?_
     simp -implicitDefEqProofs only [go_sem, Tryz.results114, h3, e8, e9, hvn]
     refine callF (HOw) (by simp -implicitDefEqProofs only [go_sem]) ?_
     simp -implicitDefEqProofs only [go_sem]
 ·rw [h3, if_pos rfl] at hv
  have HA := l4Apply_c (bnd n t) (bnd_len n t) (bnd_wt n t ht) f.atom (by have := atom_wt f; omega)
  rw [hv]
  generalize putT (bnd n t) f.atom = R at HA hwa ⊢
  have HO := l2Atom_c R hwa
  cases hn : t.name == n
  ·have e0 : bnd n t = [(n, t)] := by unfold bnd; rw [hn, if_neg (by simp)]
   have HP := l4Put_one n t ht hn
   have hS0 : sbS [] = .sl 3 [] := rfl
   rw [e0] at HA
   generalize [(n, t)] = B at HA HP
   rw [hS0] at HP
   unfold sbS at HP HA
   generalize B.map bnC = L at HA HP
   simp only [fmD, fmC_eq f, tmD, tmC_eq t, tmC_eq f.atom, tmC_eq R, fmC_mk, List.map_nil] at HA HP HO ⊢
   refine FC_of Tryz.call114 Tryz.func114 rfl (by kernel_rfl) (by simp only [rd, List.map_cons, List.map_nil, List.length_cons, List.length_nil, Tryz.ntmps114]; omega) ?_
   simp -implicitDefEqProofs only [go_sem, Tryz.results114, h3]
   refine drawn (by kernel_rfl) ?_
   simp -implicitDefEqProofs only [go_sem]
   refine dCallF (HP) (by simp -implicitDefEqProofs only [go_sem]) ?_
   simp -implicitDefEqProofs only [go_sem]
   refine dCallF (HA) (by simp -implicitDefEqProofs only [go_sem]) ?_
   simp -implicitDefEqProofs only [go_sem]
   refine ⟨by kernel_rfl, ?_⟩
   refine drawn (by kernel_rfl) ?_
   simp -implicitDefEqProofs only [go_sem]
   refine dCallF (HO) (by simp -implicitDefEqProofs only [go_sem]) ?_
   simp -implicitDefEqProofs only [go_sem]
   kernel_rfl
  ·have e0 : bnd n t = [] := by unfold bnd; rw [hn, if_pos rfl]
   have HP := l4Put_self n t hn
   have hS0 : sbS [] = .sl 3 [] := rfl
   rw [e0] at HA
   rw [hS0] at HP HA
   simp only [fmD, fmC_eq f, tmD, tmC_eq t, tmC_eq f.atom, tmC_eq R, fmC_mk, List.map_nil] at HA HP HO ⊢
   refine FC_of Tryz.call114 Tryz.func114 rfl (by kernel_rfl) (by simp only [rd, List.map_cons, List.map_nil, List.length_cons, List.length_nil, Tryz.ntmps114]; omega) ?_
   simp -implicitDefEqProofs only [go_sem, Tryz.results114, h3]
   refine drawn (by kernel_rfl) ?_
   simp -implicitDefEqProofs only [go_sem]
   refine dCallR HP (by simp -implicitDefEqProofs only [go_sem]) ?_
   simp -implicitDefEqProofs only [go_sem]
   refine dCallF (HA) (by simp -implicitDefEqProofs only [go_sem]) ?_
   simp -implicitDefEqProofs only [go_sem]
   refine ⟨by kernel_rfl, ?_⟩
   refine drawn (by kernel_rfl) ?_
   simp -implicitDefEqProofs only [go_sem]
   refine dCallF (HO) (by simp -implicitDefEqProofs only [go_sem]) ?_
   simp -implicitDefEqProofs only [go_sem]
   kernel_rfl
end Go.Proofs.YtbccfiillleimaaGreat
namespace Go.Proofs.YtbccfiillleimaaGreat
set_option linter.unusedSimpArgs false
set_option linter.unusedVariables false
set_option linter.unusedSectionVars false
set_option maxRecDepth 4000
open Go.RowKit
theorem subT_wt (n : Str) (t : Tm) : ∀ a : Tm, (subT n t a).wt ≤ a.wt + a.nodes * t.wt := tm_ind fun m xs ih => by
 rw [subT_eq, Tm.nodes_eq]
 show (if xs.length = 0 then (if (n == m) = true then t else .mk m []) else .mk m (xs.map (subT n t))).wt ≤ (Tm.mk m xs).wt + (1 + (xs.map Tm.nodes).sum) * t.wt
 have hs : (xs.map fun x => (subT n t x).wt).sum ≤ (xs.map Tm.wt).sum + (xs.map Tm.nodes).sum * t.wt := by
  revert ih
  induction xs with
  | nil => simp
  | cons x xs ih2 =>
   intro ih
   have h1 := ih x (by simp)
   have h2 := ih2 fun y hy => ih y (by simp [hy])
   simp only [List.map_cons, List.sum_cons, Nat.add_mul]
   omega
 have h0 := Tm.wt_eq (.mk m xs)
 have h0 : (Tm.mk m xs).wt = m.length + xs.length + (xs.map Tm.wt).sum := h0
 rw [Nat.add_mul, Nat.one_mul]
 split
 ·split
  ·omega
  ·have h1 := Tm.wt_eq (.mk m [])
   have h1 : (Tm.mk m []).wt = m.length + 0 + 0 := h1
   omega
 ·have h1 := Tm.wt_eq (.mk m (xs.map (subT n t)))
  have h1 : (Tm.mk m (xs.map (subT n t))).wt = m.length + (xs.map (subT n t)).length + ((xs.map (subT n t)).map Tm.wt).sum := h1
  rw [List.length_map, List.map_map] at h1
  have h2 : (xs.map (Tm.wt ∘ subT n t)).sum = (xs.map fun x => (subT n t x).wt).sum := rfl
  omega
theorem putT_wt (l : List (Str × Tm)) (W : Nat) (hW : ∀ p ∈ l, p.2.wt ≤ W) : ∀ a : Tm, (putT l a).wt ≤ a.wt + a.nodes * W := tm_ind fun m xs ih => by
 rw [putT_eq, Tm.nodes_eq]
 show (if varOk m = true then (match l.find? fun (p : Str × Tm) => p.1 == m with | some p => p.2 | none => .mk m []) else .mk m (xs.map (putT l))).wt ≤ (Tm.mk m xs).wt + (1 + (xs.map Tm.nodes).sum) * W
 have hs : (xs.map fun x => (putT l x).wt).sum ≤ (xs.map Tm.wt).sum + (xs.map Tm.nodes).sum * W := by
  revert ih
  induction xs with
  | nil => simp
  | cons x xs ih2 =>
   intro ih
   have h1 := ih x (by simp)
   have h2 := ih2 fun y hy => ih y (by simp [hy])
   simp only [List.map_cons, List.sum_cons, Nat.add_mul]
   omega
 have h0 := Tm.wt_eq (.mk m xs)
 have h0 : (Tm.mk m xs).wt = m.length + xs.length + (xs.map Tm.wt).sum := h0
 rw [Nat.add_mul, Nat.one_mul]
 split
 ·split
  ·rename_i p hp
   have := hW p (List.mem_of_find?_eq_some hp)
   omega
  ·have h1 := Tm.wt_eq (.mk m [])
   have h1 : (Tm.mk m []).wt = m.length + 0 + 0 := h1
   omega
 ·have h1 := Tm.wt_eq (.mk m (xs.map (putT l)))
  have h1 : (Tm.mk m (xs.map (putT l))).wt = m.length + (xs.map (putT l)).length + ((xs.map (putT l)).map Tm.wt).sum := h1
  rw [List.length_map, List.map_map] at h1
  have h2 : (xs.map (Tm.wt ∘ putT l)).sum = (xs.map fun x => (putT l x).wt).sum := rfl
  omega
theorem bnd_wt' (n : Str) (t : Tm) : ∀ p ∈ bnd n t, p.2.wt ≤ t.wt := by
 unfold bnd
 split
 ·simp
 ·intro p hp; simp at hp; rw [hp]; exact Nat.le_refl _
theorem l8Put_c (n : Str) (t : Tm) (ht : t.wt ≤ 1048576) : ∀ f : Fm, f.forms = true → f.wt ≤ 1048576 → f.wt + (1 + f.wt) * t.wt ≤ 1099511627776 → FC Tryz.prog 114 [fmD f, sD n, tmD t] [fmD (putF n t f).1, bD (putF n t f).2] :=
 fm_ind fun o a v ps ih hf hw hb => by
  refine l8Put_of n t ht (.mk o a v ps) hf hw ?_ fun x hx => ih x hx (by rw [Fm.forms_eq, Bool.and_eq_true] at hf; exact List.all_eq_true.1 hf.2 x hx) (Nat.le_trans (fparts_wt (a := .mk o a v ps) hx) hw) ?_
  ·have h1 := putT_wt (bnd n t) t.wt (bnd_wt' n t) a
   have h2 := nodes_wt a
   have h3 : a.wt ≤ (Fm.mk o a v ps).wt := atom_wt (.mk o a v ps)
   have h4 : a.nodes * t.wt ≤ (1 + (Fm.mk o a v ps).wt) * t.wt := Nat.mul_le_mul_right _ (by omega)
   show (putT (bnd n t) a).wt ≤ _
   omega
  ·have h3 := fparts_wt (a := .mk o a v ps) hx
   have h4 : (1 + x.wt) * t.wt ≤ (1 + (Fm.mk o a v ps).wt) * t.wt := Nat.mul_le_mul_right _ (by omega)
   omega
theorem mkF0_wt : (mkF 0 []).wt = 0 := rfl
theorem sum_sub {α : Type} {g w : α → Nat} {W : Nat} : ∀ ps : List α, (∀ x ∈ ps, g x ≤ w x + (1 + w x) * W) → (ps.map g).sum ≤ (ps.map w).sum + (ps.length + (ps.map w).sum) * W
 | [], _ => by simp
 | x :: xs, ih => by
  have h1 := ih x (by simp)
  have h2 := sum_sub (g := g) (w := w) (W := W) xs fun y hy => ih y (by simp [hy])
  simp only [List.map_cons, List.sum_cons, List.length_cons]
  have e : (xs.length + 1 + (w x + (xs.map w).sum)) * W = (1 + w x) * W + (xs.length + (xs.map w).sum) * W := by rw [← Nat.add_mul]; congr 1; omega
  rw [e]
  omega
theorem subF_wt (n : Str) (t : Tm) : ∀ f : Fm, (subF n t f).1.wt ≤ f.wt + (1 + f.wt) * t.wt := fm_ind fun o a v ps ih => by
 rw [subF_eq]
 have h0 : (Fm.mk o a v ps).wt = a.wt + v.length + ps.length + (ps.map Fm.wt).sum := Fm.wt_eq (.mk o a v ps)
 split
 ·exact Nat.le_add_right _ _
 ·split
  ·rw [mkF0_wt]; exact Nat.zero_le _
  ·have hs : (ps.map fun x => (subF n t x).1.wt).sum ≤ (ps.map Fm.wt).sum + (ps.length + (ps.map Fm.wt).sum) * t.wt := sum_sub (g := fun x => (subF n t x).1.wt) (w := Fm.wt) (W := t.wt) ps ih
   have ha := subT_wt n t a
   have hn := nodes_wt a
   show (Fm.mk o (if (o == 3) = true then subT n t a else a) v (ps.map fun x => (subF n t x).1)).wt ≤ _
   have h1 := Fm.wt_eq (.mk o (if (o == 3) = true then subT n t a else a) v (ps.map fun x => (subF n t x).1))
   have h1 : (Fm.mk o (if (o == 3) = true then subT n t a else a) v (ps.map fun x => (subF n t x).1)).wt = (if (o == 3) = true then subT n t a else a).wt + v.length + (ps.map fun x => (subF n t x).1).length + ((ps.map fun x => (subF n t x).1).map Fm.wt).sum := h1
   rw [List.length_map, List.map_map] at h1
   have h2 : (ps.map (Fm.wt ∘ fun x => (subF n t x).1)).sum = (ps.map fun x => (subF n t x).1.wt).sum := rfl
   have h3 : (if (o == 3) = true then subT n t a else a).wt ≤ a.wt + (1 + a.wt) * t.wt := by
    have : a.nodes * t.wt ≤ (1 + a.wt) * t.wt := Nat.mul_le_mul_right _ (by omega)
    split <;> omega
   have h4 : (1 + a.wt) * t.wt + (ps.length + (ps.map Fm.wt).sum) * t.wt ≤ (1 + (Fm.mk o a v ps).wt) * t.wt := by rw [← Nat.add_mul]; exact Nat.mul_le_mul_right _ (by omega)
   omega
end Go.Proofs.YtbccfiillleimaaGreat
namespace Go.Proofs.YtbccfiillleimaaGreat
set_option linter.unusedSimpArgs false
set_option linter.unusedVariables false
set_option linter.unusedSectionVars false
set_option maxRecDepth 4000
open Go.RowKit
attribute [local go_sem] Oper.semAt_some
set_option maxHeartbeats 1000000 in
theorem backFormula_mk : MakesB Tryz.prog 129 194 := by
 refine ⟨Tryz.call129, fun a len cap w => ?_⟩
 refine callsIn_wide.1 (callsIn_of_wp (n := 0) Tryz.func129 rfl trivial ?_ rfl)
 simp only [Tryz.ntmps129, List.size_toArray, List.length_cons, List.length_nil, Nat.reduceAdd, Nat.reduceSub, Array.replicate_succ, Array.replicate_zero, List.push_toArray, List.append_toArray, List.nil_append, List.cons_append]
 gi_wp2
 go_ret
 exact ⟨_, rfl, rfl⟩
set_option maxRecDepth 100000 in
set_option maxHeartbeats 2000000 in
theorem backFormula_c : BackFn Tryz.prog 194 true 5 := by
 intro l Bs n W J hmax hlen0 hrd h0
 obtain ⟨ao, cap, hBs⟩ := hlen0 W h0
 have hmax : n ≤ 9223372036854775807 := hmax
 have hw1 : IntKind.i64.wrap ((n : Int) - 1) = (n : Int) - 1 := by rw [IntKind.wrap_i64]; omega
 have hro : (FR none).round = none := rfl
 refine callsIn_of_wp Tryz.func194 rfl trivial ?_ rfl
 simp only [Tryz.ntmps194, List.size_toArray, List.length_cons, List.length_nil, Nat.reduceAdd, Nat.reduceSub, Array.replicate_succ, Array.replicate_zero, List.push_toArray, List.append_toArray, List.nil_append, List.cons_append]
 gi_wp2
 gi_loopw [3] (fun i wr => ∃ k : Nat, k ≤ n ∧ i = .int .i64 ((n : Int) - 1 - k) ∧ J k wr) (fun i _ => (intOf i + 1).toNat)
 case atStart => exact ⟨0, Nat.zero_le _, by simp, h0⟩
 case round =>
  obtain ⟨k, hk, rfl, hJs⟩ := hrel
  by_cases hlt : k < n
  ·obtain ⟨m, hm⟩ : ∃ m, n - 1 - k = m := ⟨_, rfl⟩
   have hml : m < n := by omega
   obtain ⟨b, o, cap', r, hb, hr, hcell, fn, tmps, assign, body, hy, hR⟩ := hrd k wr hJs hlt
   match r, hr, hcell, hy with
   | [v0, v1, v2, v3, v4], _, hcell, hy =>
    rw [hm] at hcell hy
    rw [show (n : Int) - 1 - k = (m : Int) by omega]
    have e1 : wr.cell? ⟨b, o + m * 5, none⟩ = _ := hcell 0 v0 rfl
    have e2 : wr.cell? ⟨b, o + m * 5 + 1, none⟩ = _ := hcell 1 v1 rfl
    have e3 : wr.cell? ⟨b, o + m * 5 + 2, none⟩ = _ := hcell 2 v2 rfl
    have e4 : wr.cell? ⟨b, o + m * 5 + 3, none⟩ = _ := hcell 3 v3 rfl
    have e5 : wr.cell? ⟨b, o + m * 5 + 4, none⟩ = _ := hcell 4 v4 rfl
    simp only [agv, if_true] at hy
    have hw2 : IntKind.i64.wrap ((m : Int) - 1) = (m : Int) - 1 := by rw [IntKind.wrap_i64]; omega
    gi_wp2
    refine hR.mono ?_
    rintro e W3 ⟨rfl, hJ3⟩
    gi_wp2
    go_roundw
    case rel => exact ⟨k + 1, by omega, by go_num, hJ3⟩
    case measure => simp [intOf]
  ·obtain rfl : k = n := by omega
   gi_wp2
   go_end0
   exact ⟨⟨_, rfl⟩, hJs⟩
end Go.Proofs.YtbccfiillleimaaGreat
namespace Go.Proofs.YtbccfiillleimaaGreat
set_option linter.unusedSimpArgs false
set_option linter.unusedVariables false
set_option linter.unusedSectionVars false
set_option maxRecDepth 4000
open Go.RowKit
structure OF where
 op : Int
 name : Str
 a : Option Addr × Nat × Nat
 var : Str
 p : Option Addr × Nat × Nat
def ofC (x : OF) : List T := [.int .i64 x.op, .str x.name, .vs x.a.1 x.a.2.1 x.a.2.2, .str x.var, .vs x.p.1 x.p.2.1 x.p.2.2]
theorem ofC_eq (x : OF) : ofC x = [.int .i64 x.op, .str x.name, .vs x.a.1 x.a.2.1 x.a.2.2, .str x.var, .vs x.p.1 x.p.2.1 x.p.2.2] := rfl
def jnC (op : Int) : List OF → List T
 | [] => []
 | [x] => ofC x
 | x :: xs => [.int .i64 op, .str [], .sl 2 [], .str [], .sl 5 [ofC x, jnC op xs]]
theorem jnC_cons (op : Int) (x : OF) {xs : List OF} (h : xs ≠ []) : jnC op (x :: xs) = [.int .i64 op, .str [], .sl 2 [], .str [], .sl 5 [ofC x, jnC op xs]] := by
 cases xs with
 | nil => exact absurd rfl h
 | cons y ys => rfl
theorem binary_ff (op : Int) (x y : OF) : FC Tryz.prog 130 [iD op, .agg (ofC x), .agg (ofC y)] [.agg [.int .i64 op, .str [], .sl 2 [], .str [], .sl 5 [ofC x, ofC y]]] := by
 simp only [ofC_eq]
 refine FC_of Tryz.call130 Tryz.func130 rfl (by kernel_rfl) (by simp only [rd, List.map_cons, List.map_nil, List.length_cons, List.length_nil, Tryz.ntmps130]; omega) ?_
 simp -implicitDefEqProofs only [go_sem, Tryz.results130]
 refine buildDc (by simp -implicitDefEqProofs only [go_sem]) ?_
 simp -implicitDefEqProofs only [go_sem]
theorem binary_fo (op o2 : Int) (x : OF) (R : List (List T)) : GC Tryz.prog 130 [(false, iD op), (false, .agg (ofC x)), (true, .agg [.int .i64 o2, .str [], .sl 2 [], .str [], .sl 5 R])] [.agg [.int .i64 op, .str [], .sl 2 [], .str [], .sl 5 [ofC x, [.int .i64 o2, .str [], .sl 2 [], .str [], .sl 5 R]]]] := by
 simp only [ofC_eq]
 refine GC_of Tryz.call130 Tryz.func130 rfl (by kernel_rfl) (by simp only [List.length_cons, List.length_nil, Tryz.ntmps130]; omega) (by simp [smallG, T.isPin]) ?_
 simp -implicitDefEqProofs only [go_sem, Tryz.results130]
 refine buildDc (by simp -implicitDefEqProofs only [go_sem]) ?_
 simp -implicitDefEqProofs only [go_sem]
def cbH (op : Int) (xs : List OF) (z : OF) : Nat → St
 | 0 => hd [(3, .one (.bx 3 0)), (6, .one (.bx 6 0)), (7, .one (.bx 7 0)), (25, .one (.fn 194 [25]))]
   [(3, [.t (.int .i64 op)]), (6, [.t (.int .i64 0), .t (.str []), .nl 2, .t (.str []), .nl 5]), (7, (ofC (xs.getD (xs.length - 1) z)).map .t), (25, [.rn (.sl 5 ((xs.map ofC).take (xs.length - 1)))])] []
 | k + 1 => hd [(3, .one (.bx 3 0)), (6, .one (.bx 6 0)), (7, .one (.bx 7 0)), (25, .one (.fn 194 [25]))]
   [(3, [.t (.int .i64 op)]), (6, [.t (.int .i64 0), .t (.str []), .nl 2, .t (.str []), .nl 5]), (7, [.t (.int .i64 op), .t (.str []), .ow 994 0, .t (.str []), .ow 996 0]), (25, [.rn (.sl 5 ((xs.map ofC).take (xs.length - 1)))])]
   [(994, ⟨true, 2, [], 0, true⟩), (996, ⟨true, 5, [ofC (xs.getD (xs.length - 1 - 1 - k) z), jnC op (xs.drop (xs.length - 1 - k))], 0, true⟩)]
set_option maxHeartbeats 1000000 in
theorem combined_x (op : Int) (xs : List OF) (z : OF) : FC Tryz.prog 68 [iD op, .one (.sl 5 (xs.map ofC)), .agg (ofC z)] [.agg (if xs = [] then ofC z else jnC op xs)] := by
 cases hx : xs with
 | nil =>
  simp only [if_true, List.map_nil, ofC]
  refine FC_ofBH Tryz.call68 Tryz.func68 rfl rfl (by kernel_rfl) (by simp only [rd, List.map_cons, List.map_nil, List.length_cons, List.length_nil, Tryz.ntmps68]; omega) ?_
  simp -implicitDefEqProofs only [go_sem, Tryz.results68]
 | cons x0 r0 =>
  rw [← hx]
  have hne : xs ≠ [] := by rw [hx]; simp
  have hn : 0 < xs.length := by rw [hx]; simp
  refine FC_wf (fun hw => ?_) Tryz.call68
  have hl : xs.length ≤ 9223372036854775807 := by simpa [wfDs, wfT] using hw.2.1.1
  clear hw hx
  have e0 : ((xs.length : Int) == 0) = false := by simp; omega
  have e1 : IntKind.i64.wrap ((xs.length : Int) - 1) = ((xs.length - 1 : Nat) : Int) := by rw [wrap_in (by omega) (by omega)]; omega
  have hi : xs.length - 1 < xs.length := by omega
  rw [if_neg hne]
  simp only [ofC]
  refine FC_ofBH Tryz.call68 Tryz.func68 rfl rfl (by kernel_rfl) (by simp only [rd, List.map_cons, List.map_nil, List.length_cons, List.length_nil, Tryz.ntmps68]; omega) ?_
  simp -implicitDefEqProofs only [go_sem, Tryz.results68, e0, e1, hi, getD_at, List.length_map, ofC_eq]
  refine ⟨by omega, ?_⟩
  refine callB (sz := 5) (rows := (xs.map ofC).take (xs.length - 1)) backFormula_mk (by simp -implicitDefEqProofs only [go_sem]) ?_
  simp -implicitDefEqProofs only [go_sem]
  have hlen : ((xs.map ofC).take (xs.length - 1)).length = xs.length - 1 := by simp
  have hlast : xs.getD (xs.length - 1) z = xs[xs.length - 1] := by simp [hi]
  refine loopB backFormula_c Tryz.call194 25 (cbH op xs z) ((xs.map ofC).take (xs.length - 1)) (by kernel_rfl) rfl (fun k => by cases k <;> exact ⟨rfl, rfl⟩) (fun k => by cases k <;> exact ⟨rfl, rfl, rfl, rfl, rfl, rfl, rfl, trivial⟩) (weak_hd (by simp -implicitDefEqProofs only [go_sem, hlast, ofC_eq])) ?_ ?_
  ·intro k hk
   rw [hlen] at hk ⊢
   have hrow : ((xs.map ofC).take (xs.length - 1)).getD (xs.length - 1 - 1 - k) [] = ofC (xs.getD (xs.length - 1 - 1 - k) z) := by
    have h1 : xs.length - 1 - 1 - k < xs.length - 1 := by omega
    have h2 : xs.length - 1 - 1 - k < xs.length := by omega
    simp [List.getD, List.getElem?_take, h1, h2]
   rw [hrow]
   have hd1 : xs.drop (xs.length - 1) = [xs.getD (xs.length - 1) z] := by
    rw [List.drop_eq_getElem_cons hi, List.drop_of_length_le (by omega), hlast]
   cases k with
   | zero =>
    simp only [cbH, rowN, if_true, Nat.sub_zero]
    simp -implicitDefEqProofs only [go_sem, ofC_eq, rowN, T.toN]
    refine callF (binary_ff op (xs.getD (xs.length - 1 - 1) z) (xs.getD (xs.length - 1) z)) (by simp -implicitDefEqProofs only [go_sem, ofC_eq]) ?_
    simp -implicitDefEqProofs only [go_sem, ofC_eq]
    refine weak_hd ?_
    rw [hd1]
    simp -implicitDefEqProofs only [go_sem, jnC, ofC_eq]
   | succ k =>
    have hdk : xs.drop (xs.length - 1 - (k + 1)) = xs.getD (xs.length - 1 - 1 - k) z :: xs.drop (xs.length - 1 - k) := by
     have h1 : xs.length - 1 - (k + 1) < xs.length := by omega
     rw [List.drop_eq_getElem_cons h1, show xs.length - 1 - (k + 1) + 1 = xs.length - 1 - k by omega]
     congr 1
     rw [show xs.length - 1 - 1 - k = xs.length - 1 - (k + 1) by omega]
     simp [h1]
    have hdn : xs.drop (xs.length - 1 - k) ≠ [] := by
     intro e
     have := congrArg List.length e
     simp at this; omega
    simp only [cbH, rowN, if_true]
    rw [hdk, jnC_cons op _ hdn]
    generalize xs.getD (xs.length - 1 - 1 - (k + 1)) z = x
    generalize xs.getD (xs.length - 1 - 1 - k) z = y
    generalize jnC op (xs.drop (xs.length - 1 - k)) = J
    simp -implicitDefEqProofs only [go_sem, ofC_eq x, T.toN]
    refine callG [(28, vI op), (29, .agg ((ofC x).map .t)), (30, .agg [.t (.int .i64 op), .t (.str []), .ow 994 0, .t (.str []), .ow 996 0])]
     [(3, .one (.bx 3 0)), (6, .one (.bx 6 0)), (7, .one (.bx 7 0)), (25, .one (.fn 194 [25]))] []
     [(3, [.t (.int .i64 op)]), (6, [.t (.int .i64 0), .t (.str []), .nl 2, .t (.str []), .nl 5]), (7, [.any, .any, .any, .any, .any]), (25, [.rn (.sl 5 ((xs.map ofC).take (xs.length - 1)))])]
     [(994, ⟨true, 2, [], 0, true⟩), (996, ⟨true, 5, [ofC y, J], 0, true⟩)] [] [] (binary_fo op op x [ofC y, J]) (by simp -implicitDefEqProofs only [go_sem, ofC_eq x]) (by simp -implicitDefEqProofs only [go_sem]) (by simp -implicitDefEqProofs only [go_sem, ofC_eq x]) (by simp -implicitDefEqProofs only [go_sem]) ?_
    simp -implicitDefEqProofs only [go_sem]
    refine weak_hd ?_
    simp -implicitDefEqProofs only [go_sem, ofC_eq x]
  ·rw [hlen]
   cases hm : xs.length - 1 with
   | zero =>
    have hx1 : xs = [xs.getD (xs.length - 1) z] := by
     rw [hlast]
     have : xs.length = 1 := by omega
     match xs, this with
     | [x], _ => rfl
    rw [hm] at hx1
    rw [hx1]
    generalize xs.getD 0 z = x
    show ex _ _ _ _ (cbH op [x] z 0)
    simp only [cbH]
    simp -implicitDefEqProofs only [go_sem, jnC, ofC_eq, Tryz.results68]
   | succ m =>
    have h0 : 0 < xs.length := hn
    have hx2 : jnC op xs = [.int .i64 op, .str [], .sl 2 [], .str [], .sl 5 [ofC (xs.getD 0 z), jnC op (xs.drop 1)]] := by
     match xs, hm with
     | x :: r, hm =>
      rw [jnC_cons op x (by intro e; rw [e] at hm; simp at hm)]
      rfl
    rw [hx2]
    simp only [cbH]
    rw [show xs.length - 1 - 1 - m = 0 by omega, show xs.length - 1 - m = 1 by omega]
    generalize xs.getD 0 z = x
    generalize jnC op (xs.drop 1) = J
    simp -implicitDefEqProofs only [go_sem, Tryz.results68]
end Go.Proofs.YtbccfiillleimaaGreat
namespace Go.Proofs.YtbccfiillleimaaGreat
set_option linter.unusedSimpArgs false
set_option linter.unusedVariables false
set_option linter.unusedSectionVars false
set_option maxRecDepth 4000
open Go.RowKit
def joinF (op : Int) : List Fm → Fm → Fm
 | [], z => z
 | [x], _ => x
 | x :: xs, z => mkF op [x, joinF op xs z]
theorem joinF_cons (op : Int) (x : Fm) {xs : List Fm} (h : xs ≠ []) (z : Fm) : joinF op (x :: xs) z = mkF op [x, joinF op xs z] := by
 cases xs with
 | nil => exact absurd rfl h
 | cons y ys => rfl
theorem of_fm {w : World} {x : Fm} {vs : List Value} {f : List Nat} (h : OwnAll w (fmC x) vs f) : ∃ y : OF, (∀ A : Nat → Prop, RepAll w A (ofC y) vs) ∧ ∀ w' : World, (∀ b ∈ f, w'.heap[b]? = w.heap[b]?) → GrAt w' (ofC y) (fmC x) f := by
 rw [fmC_eq] at h ⊢
 obtain ⟨v1, _, f1, _, rfl, rfl, h1, h⟩ := h
 obtain ⟨v2, _, f2, _, rfl, rfl, h2, h⟩ := h
 obtain ⟨v3, _, f3, _, rfl, rfl, h3, h⟩ := h
 obtain ⟨v4, _, f4, _, rfl, rfl, h4, h⟩ := h
 obtain ⟨v5, _, f5, _, rfl, rfl, h5, h⟩ := h
 obtain ⟨rfl, rfl⟩ := h
 unfold OwnV at h1 h2 h4
 obtain ⟨rfl, n1, n2, rfl⟩ := h1
 obtain ⟨rfl, n3, rfl⟩ := h2
 obtain ⟨rfl, n4, rfl⟩ := h4
 have g3 := h3
 have g5 := h5
 unfold OwnV at g3 g5
 obtain ⟨a3, c3, rfl, _⟩ := g3
 obtain ⟨a5, c5, rfl, _⟩ := g5
 refine ⟨⟨x.op, x.atom.name, (a3, (x.atom.args.map tmC).length, c3), x.var, (a5, (x.parts.map fmC).length, c5)⟩, fun A => ?_, fun w' hs => ?_⟩
 ·unfold ofC
  simp only [RepAll, RepV]
  exact ⟨_, _, rfl, ⟨rfl, n1, n2⟩, _, _, rfl, ⟨rfl, n3⟩, _, _, rfl, rfl, _, _, rfl, ⟨rfl, n4⟩, _, _, rfl, rfl, rfl⟩
 ·unfold ofC
  simp only [GrAt, GrT]
  refine ⟨_, _, [], _, rfl, rfl, ⟨rfl, rfl⟩, _, _, [], _, rfl, rfl, ⟨rfl, rfl⟩, _, _, f3, _, rfl, rfl, OwnV.keep _ _ _ h3 fun b hb => hs b (by simp [hb]), _, _, [], _, rfl, rfl, ⟨rfl, rfl⟩, _, _, f5, _, rfl, rfl, OwnV.keep _ _ _ h5 fun b hb => hs b (by simp [hb]), rfl, rfl⟩
theorem of_fms {w : World} {cells : Array Value} {b : Nat} {ty : TypeId} (hc : w.heap[b]? = some (.cells cells ty (0, 0))) : ∀ {xs : List Fm} {o : Nat} {fps : List Nat}, OwnRows w cells o 5 (xs.map fmC) fps →
  ∃ ys : List OF, ys.length = xs.length ∧ (∀ A : Nat → Prop, RepRows w A b o 5 (ys.map ofC)) ∧ ∀ w' : World, (∀ b ∈ fps, w'.heap[b]? = w.heap[b]?) → GrRows w' (ys.map ofC) (xs.map fmC) fps
 | [], o, fps, h => by
  rw [List.map_nil] at h
  unfold OwnRows at h
  subst h
  exact ⟨[], rfl, fun A => by rw [List.map_nil]; unfold RepRows; trivial, fun w' _ => by rw [List.map_nil, List.map_nil]; unfold GrRows; exact ⟨rfl, rfl⟩⟩
 | x :: xs, o, fps, h => by
  rw [List.map_cons] at h
  unfold OwnRows at h
  obtain ⟨h1, f1, f2, rfl, h2, h3⟩ := h
  obtain ⟨vs, k1, k2, k3⟩ := h2.vals
  obtain ⟨y, l1, l2⟩ := of_fm k3
  obtain ⟨ys, m1, m2, m3⟩ := of_fms hc h3
  refine ⟨y :: ys, by simp [m1], fun A => ?_, fun w' hs => ?_⟩
  ·rw [List.map_cons]
   unfold RepRows
   refine ⟨rfl, RepAt.mk fun j c hj => ?_, m2 A⟩
   obtain ⟨v, q1, q2⟩ := (l1 A).at j c hj
   exact ⟨v, by simp [World.cell?, hc, k2 j v q1], q2⟩
  ·rw [List.map_cons, List.map_cons]
   unfold GrRows
   exact ⟨_, _, f1, f2, rfl, rfl, l2 w' fun b hb => hs b (by simp [hb]), m3 w' fun b hb => hs b (by simp [hb])⟩
theorem gr_join {w : World} (op : Int) (z : Fm) : ∀ {xs : List Fm} {ys : List OF} {fps : List Nat}, xs ≠ [] → GrRows w (ys.map ofC) (xs.map fmC) fps → GrAt w (jnC op ys) (fmC (joinF op xs z)) fps
 | [], _, _, h, _ => absurd rfl h
 | x :: xs, [], _, _, h => by rw [List.map_nil, List.map_cons] at h; unfold GrRows at h; exact absurd h.1 (by simp)
 | x :: xs, y :: ys, fps, _, h => by
  rw [List.map_cons, List.map_cons] at h
  unfold GrRows at h
  obtain ⟨r', rs', e1, e2, h0, rfl, h1, h2⟩ := h
  simp only [List.cons.injEq] at h0
  obtain ⟨rfl, rfl⟩ := h0
  have hlen := h2.len
  simp only [List.length_map] at hlen
  by_cases hx : xs = []
  ·subst hx
   have hy : ys = [] := List.length_eq_zero_iff.1 (by simpa using hlen.symm)
   subst hy
   rw [List.map_nil, List.map_nil] at h2
   unfold GrRows at h2
   rw [h2.2, List.append_nil]
   exact h1
  ·have hy : ys ≠ [] := fun e => hx (List.length_eq_zero_iff.1 (by rw [hlen, e]; rfl))
   rw [jnC_cons op y hy, joinF_cons op x hx, fmC_mkF, List.map_cons, List.map_cons, List.map_nil]
   have h3 := gr_join op z hx h2
   simp only [GrAt, GrT, GrRows]
   exact ⟨_, _, [], _, rfl, rfl, ⟨rfl, rfl⟩, _, _, [], _, rfl, rfl, ⟨rfl, rfl⟩, _, _, [], _, rfl, rfl, ⟨[], rfl, rfl, rfl⟩, _, _, [], _, rfl, rfl, ⟨rfl, rfl⟩, _, _, e1 ++ e2, [], rfl, by simp, ⟨_, rfl, _, _, e1, e2, rfl, rfl, h1, _, _, e2, [], rfl, by simp, h3, rfl, rfl⟩, rfl, rfl⟩
theorem combined_c (op : Int) (xs : List Fm) (z : Fm) : GC Tryz.prog 68 [(false, iD op), (true, .one (fmS xs)), (true, fmD z)] [fmD (joinF op xs z)] := by
 refine GC_of_graft Tryz.call68 fun w vs fp tp hv hn => ?_
 obtain ⟨v1, _, rfl, h1, hv⟩ := hv
 obtain ⟨v2, _, f2, _, t2, _, rfl, rfl, rfl, h2, hv⟩ := hv
 obtain ⟨v3, _, f3, _, t3, _, rfl, rfl, rfl, h3, hv⟩ := hv
 obtain ⟨rfl, rfl, rfl⟩ := hv
 obtain ⟨a, rfl, h3⟩ := h3
 have h2 : OwnV w (fmS xs) v2 f2 := h2.1
 have h3 : OwnAll w (fmC z) a f3 := OwnAll.of_g h3
 obtain ⟨y, k1, k2⟩ := of_fm h3
 have hlt3 : ∀ b ∈ f3, b < w.heap.size := OwnAll.lt h3
 have hlt2 : ∀ b ∈ f2, b < w.heap.size := OwnV.lt _ _ _ h2
 have hi : RepD w (fun b => b < w.heap.size) (iD op) v1 := by
  have : RepDs w (fun b => b < w.heap.size) [iD op] [v1] := RepDs.keep (fun _ _ => rfl) (fun b hb => hb.1) (⟨v1, [], rfl, h1, rfl⟩ : RepDs w (fun b => b < w.heap.size ∧ b ∉ f2 ++ (f3 ++ [])) [iD op] [v1])
  obtain ⟨_, _, e, h4, _⟩ := this
  cases e; exact h4
 obtain ⟨n1, n2, -⟩ := List.nodup_append.1 hn
 rw [List.append_nil] at n2
 have hS : ∃ (ys : List OF) (f : List Nat), ys.length = xs.length ∧ f.Nodup ∧ (∀ b ∈ f, b ∈ f2) ∧ RepV w (fun b => b < w.heap.size) (.sl 5 (ys.map ofC)) v2 ∧ ∀ w' : World, (∀ b ∈ f, w'.heap[b]? = w.heap[b]?) → GrRows w' (ys.map ofC) (xs.map fmC) f := by
  unfold fmS at h2
  unfold OwnV at h2
  obtain ⟨ao, cap, rfl, q1, q2, q3⟩ := h2
  rw [List.length_map] at q1
  rcases q3 with ⟨rfl, rfl, q3, rfl⟩ | ⟨b, cells, ty, fps, rfl, rfl, q3, q4, q5⟩
  ·have hx : xs = [] := by simpa using q3
   subst hx
   refine ⟨[], [], rfl, List.nodup_nil, fun b hb => hb, ?_, fun _ _ => by rw [List.map_nil, List.map_nil]; unfold GrRows; exact ⟨rfl, rfl⟩⟩
   unfold RepV
   exact ⟨none, 0, rfl, Nat.le_refl _, by simp, Or.inl rfl⟩
  ·obtain ⟨ys, r1, r2, r3⟩ := of_fms q3 q5
   refine ⟨ys, fps, r1, (List.nodup_cons.1 n1).2, fun b hb => by simp [hb], ?_, r3⟩
   unfold RepV
   exact ⟨_, cap, by rw [List.length_map, List.length_map, r1], by rw [List.length_map, r1]; exact q1, q2, Or.inr ⟨b, 0, rfl, hlt2 b (by simp), r2 _⟩⟩
 obtain ⟨ys, f, r1, r4, r5, r2, r3⟩ := hS
 by_cases hx : xs = []
 ·subst hx
  have hy : ys = [] := List.length_eq_zero_iff.1 (by simpa using r1)
  refine ⟨[iD op, .one (.sl 5 (ys.map ofC)), .agg (ofC y)], _, f3, combined_x op ys y, ⟨v1, _, rfl, hi, v2, _, rfl, r2, _, _, rfl, ⟨a, rfl, k1 _⟩, rfl⟩, n2, fun b hb => ⟨by simp [hb], hlt3 b hb⟩, fun w' hs => ?_⟩
  rw [if_pos hy]
  exact k2 w' hs
 ·have hy : ys ≠ [] := fun e => hx (List.length_eq_zero_iff.1 (by rw [← r1, e]; rfl))
  refine ⟨[iD op, .one (.sl 5 (ys.map ofC)), .agg (ofC y)], _, f, combined_x op ys y, ⟨v1, _, rfl, hi, v2, _, rfl, r2, _, _, rfl, ⟨a, rfl, k1 _⟩, rfl⟩, r4, fun b hb => ⟨by simp [r5 b hb], hlt2 b (r5 b hb)⟩, fun w' hs => ?_⟩
  rw [if_neg hy]
  exact gr_join op z hx (r3 w' hs)
end Go.Proofs.YtbccfiillleimaaGreat
namespace Go.Proofs.YtbccfiillleimaaGreat
set_option linter.unusedSimpArgs false
set_option linter.unusedVariables false
set_option linter.unusedSectionVars false
set_option maxRecDepth 4000
open Go.RowKit
def jS (op : Int) (xs : List Fm) (J : Fm) (i : Int) (a b : Nat) : St := hd [(0, vT (fmS xs)), (1, .one (.t (.int .i64 op))), (6, .one (.bx 6 0)), (7, .one (.bx 7 0)), (8, .one (.t (.int .i64 i)))]
 [(6, [.t (.int .i64 0), .t (.str []), .nl 2, .t (.str []), .nl 5]), (7, [.t (.int .i64 J.op), .t (.str J.atom.name), .ow a 0, .t (.str J.var), .ow b 0])] [(a, ⟨true, 2, J.atom.args.map tmC, 0, true⟩), (b, ⟨true, 5, J.parts.map fmC, 0, true⟩)]
theorem jS_ren1 (op : Int) (xs : List Fm) (J : Fm) (i : Int) : Wk (jS op xs J i 642 644) (jS op xs J i 2002 644) := wk_ren 642 2002 _ _ _
theorem jS_ren2 (op : Int) (xs : List Fm) (J : Fm) (i : Int) : Wk (jS op xs J i 2002 644) (jS op xs J i 2002 2000) := wk_ren 644 2000 _ _ _
theorem jS_ren3 (op : Int) (xs : List Fm) (J : Fm) (i : Int) : Wk (jS op xs J i 2003 1120) (jS op xs J i 2003 2000) := wk_ren 1120 2000 _ _ _
theorem jS_ren4 (op : Int) (xs : List Fm) (J : Fm) (i : Int) : Wk (jS op xs J i 2003 2000) (jS op xs J i 2002 2000) := wk_ren 2003 2002 _ _ _
theorem mkF_op (o : Int) (ps : List Fm) : (mkF o ps).op = o := rfl
theorem mkF_name (o : Int) (ps : List Fm) : (mkF o ps).atom.name = [] := rfl
theorem mkF_args (o : Int) (ps : List Fm) : (mkF o ps).atom.args = [] := rfl
theorem mkF_var (o : Int) (ps : List Fm) : (mkF o ps).var = [] := rfl
theorem mkF_parts (o : Int) (ps : List Fm) : (mkF o ps).parts = ps := rfl
theorem l18Joined_c (xs : List Fm) (op none : Int) (hs : fmsW xs ≤ 1048576) : FC Tryz.prog 115 [.one (fmS xs), iD op, iD none] [fmD (joinF op xs (mkF none []))] := by
 have hW : fmsW xs = xs.length + (xs.map Fm.wt).sum := rfl
 have hwt : ∀ k (h : k < xs.length), xs[k].wt ≤ 1048576 := fun k h => by have := mem_sum Fm.wt xs xs[k] (List.getElem_mem h); omega
 by_cases hx : xs = []
 ·subst hx
  show FC _ _ _ [fmD (mkF none [])]
  simp only [fmD, fmC_mkF, List.map_nil, fmS]
  refine FC_of Tryz.call115 Tryz.func115 rfl (by kernel_rfl) (by simp only [rd, List.map_cons, List.map_nil, List.length_cons, List.length_nil, Tryz.ntmps115]; omega) ?_
  simp -implicitDefEqProofs only [go_sem, Tryz.results115]
 ·have hn : 0 < xs.length := List.length_pos_iff.2 hx
  have e0 : ((xs.length : Int) == 0) = false := by simp; omega
  have e1 : IntKind.i64.wrap ((xs.length : Int) - 1) = ((xs.length - 1 : Nat) : Int) := by rw [wrap_in (by omega) (by omega)]; omega
  have e2 : IntKind.i64.wrap ((xs.length : Int) - 2) = (xs.length : Int) - 2 := wrap_in (by omega) (by omega)
  have hi : xs.length - 1 < xs.length := by omega
  have hR : ∃ R, joinF op xs (mkF none []) = R := ⟨_, rfl⟩
  obtain ⟨R, hR⟩ := hR
  rw [hR]
  simp only [fmD, fmC_eq R]
  have hL := fmC_eq xs[xs.length - 1]
  refine FC_of Tryz.call115 Tryz.func115 rfl (by kernel_rfl) (by simp only [rd, List.map_cons, List.map_nil, List.length_cons, List.length_nil, Tryz.ntmps115]; omega) ?_
  simp -implicitDefEqProofs only [go_sem, Tryz.results115, e0, e1, hi, getD_at, hL]
  refine callF (l8Own_c xs[xs.length - 1] (hwt _ hi)) (by simp -implicitDefEqProofs only [go_sem, fmC_eq xs[xs.length - 1], e2]) ?_
  simp -implicitDefEqProofs only [go_sem, fmC_eq xs[xs.length - 1], e2]
  have hd1 : joinF op (xs.drop (xs.length - 1)) (mkF none []) = xs[xs.length - 1] := by
   rw [List.drop_eq_getElem_cons hi, List.drop_of_length_le (by omega)]; rfl
  refine loop_rule (fun k : Nat => jS op xs (joinF op (xs.drop (xs.length - 1 - k)) (mkF none [])) ((xs.length : Int) - 2 - k) 2002 2000) (fun k => k ≤ xs.length - 1) (fun k => xs.length - 1 - k) 0 (Wk.trans ?_ ((jS_ren1 _ _ _ _).trans (jS_ren2 _ _ _ _))) (Nat.zero_le _) ?_
  ·rw [Nat.sub_zero, hd1]
   unfold jS
   refine weak_hd ?_
   simp -implicitDefEqProofs only [go_sem]
   simp
  ·intro k hk
   by_cases hlt : k < xs.length - 1
   ·obtain ⟨m, hm⟩ : ∃ m, xs.length - 2 - k = m := ⟨_, rfl⟩
    have hml : m < xs.length := by omega
    have hge : ((0 : Int) ≤ (m : Int)) = True := by simp
    have hdk : joinF op (xs.drop (xs.length - 1 - (k + 1))) (mkF none []) = mkF op [xs[m], joinF op (xs.drop (xs.length - 1 - k)) (mkF none [])] := by
     rw [show xs.length - 1 - (k + 1) = m by omega, List.drop_eq_getElem_cons hml, show m + 1 = xs.length - 1 - k by omega]
     refine joinF_cons op _ ?_ _
     intro e
     have := congrArg List.length e
     simp at this; omega
    have hwm := hwt m hml
    have hnx : Wk (jS op xs (joinF op (xs.drop (xs.length - 1 - (k + 1))) (mkF none [])) ((xs.length : Int) - 2 - ((k + 1 : Nat) : Int)) 2003 1120) (jS op xs (joinF op (xs.drop (xs.length - 1 - (k + 1))) (mkF none [])) ((xs.length : Int) - 2 - ((k + 1 : Nat) : Int)) 2002 2000) := (jS_ren3 _ _ _ _).trans (jS_ren4 _ _ _ _)
    have e3 : IntKind.i64.wrap ((m : Int) - 1) = (xs.length : Int) - 2 - ((k + 1 : Nat) : Int) := by rw [wrap_in (by omega) (by omega)]; omega
    rw [show (xs.length : Int) - 2 - (k : Int) = (m : Int) by omega]
    generalize hJ : joinF op (xs.drop (xs.length - 1 - k)) (mkF none []) = J at hdk ⊢
    generalize hX : xs[m] = x at hdk hwm
    have hxE := fmC_eq x
    unfold jS
    simp -implicitDefEqProofs only [go_sem, hge, getD_at, hml, hX, hxE]
    refine drawn (by kernel_rfl) ?_
    simp -implicitDefEqProofs only [go_sem, getD_at, hml, hX, hxE]
    refine dCallF (l8Own_c x hwm) (by simp -implicitDefEqProofs only [go_sem, hxE]) ?_
    simp -implicitDefEqProofs only [go_sem, hxE]
    refine dBuildDc (by simp -implicitDefEqProofs only [go_sem]) ?_
    simp -implicitDefEqProofs only [go_sem]
    refine ⟨by kernel_rfl, k + 1, by omega, by omega, Wk.trans ?_ hnx⟩
    rw [hdk]
    unfold jS
    refine weak_hd ?_
    simp -implicitDefEqProofs only [go_sem, e3, mkF_op, mkF_name, mkF_args, mkF_var, mkF_parts, List.map_cons, List.map_nil, hxE]
    rw [fmC_eq J]
   ·have hk2 : k = xs.length - 1 := by omega
    subst hk2
    have hlt0 : ((xs.length : Int) - 2 - ((xs.length - 1 : Nat) : Int)) = -1 := by omega
    rw [Nat.sub_self, List.drop_zero, hR, hlt0]
    unfold jS
    simp -implicitDefEqProofs only [go_sem]
end Go.Proofs.YtbccfiillleimaaGreat
namespace Go.Proofs.YtbccfiillleimaaGreat
set_option linter.unusedSimpArgs false
set_option linter.unusedVariables false
set_option linter.unusedSectionVars false
set_option maxRecDepth 4000
open Go.RowKit
def mtd : Nat → Nat → Str → Str
 | 0, _, acc => acc
 | fuel + 1, n, acc => if n = 0 then acc else mtd fuel (n / 10) (UInt8.ofNat (48 + n % 10) :: acc)
def mtx (k : Nat) : Str := 109 :: mtd (k + 1) k []
theorem mtd_step (fuel n : Nat) (acc : Str) (h : 0 < n) : mtd (fuel + 1) n acc = mtd fuel (n / 10) (UInt8.ofNat (48 + n % 10) :: acc) := by rw [mtd, if_neg (by omega)]
theorem mtd_fuel : ∀ (f f' n : Nat) (acc : Str), n < f → n < f' → mtd f n acc = mtd f' n acc
 | 0, _, n, _, h, _ => absurd h (by omega)
 | _ + 1, 0, n, _, _, h => absurd h (by omega)
 | f + 1, f' + 1, n, acc, h, h' => by
  by_cases h0 : n = 0
  ·simp [mtd, h0]
  ·rw [mtd_step _ _ _ (by omega), mtd_step _ _ _ (by omega)]
   exact mtd_fuel f f' _ _ (by omega) (by omega)
theorem wrap_u8 {n : Nat} (h : n < 256) : IntKind.u8.wrap (n : Int) = n := by
 have e : IntKind.u8.wrap (n : Int) = (n : Int) % 256 := rfl
 rw [e]; omega
theorem markText_c (k : Nat) (hk0 : 0 < k) (hk : k ≤ 4611686018427387904) : FC Tryz.prog 100 [iD k] [sD (mtx k)] := by
 have h0 : ((k : Int) ≤ 0) = False := by simp; omega
 refine FC_of Tryz.call100 Tryz.func100 rfl (by kernel_rfl) (by simp only [rd, List.map_cons, List.map_nil, List.length_cons, List.length_nil, Tryz.ntmps100]; omega) ?_
 simp -implicitDefEqProofs only [go_sem, Tryz.results100, h0]
 refine loop_rule (fun (x : Nat × Str) => hd [(0, vI x.1), (3, vT (.str x.2))] [] []) (fun x => mtx k = 109 :: mtd (x.1 + 1) x.1 x.2 ∧ x.1 * 10 ^ x.2.length ≤ k ∧ x.2.length ≤ 19) (fun x => x.1) (k, []) (weak_hd ?_) ?_ ?_
 ·simp -implicitDefEqProofs only [go_sem]
 ·exact ⟨rfl, by simp, by simp⟩
 ·intro ⟨n, s⟩ ⟨h1, h2, hl⟩
  have hl : s.length ≤ 19 := hl
  have hn : n ≤ k := Nat.le_trans (Nat.le_mul_of_pos_right _ (Nat.pow_pos (by omega))) h2
  have hs : s.length ≤ 18 ∨ n = 0 := by
   by_cases h : n = 0
   ·exact Or.inr h
   ·left
    refine Nat.le_of_not_lt fun hl => ?_
    have : 10 ^ 19 ≤ 10 ^ s.length := Nat.pow_le_pow_right (by omega) (by omega)
    have : 1 * 10 ^ s.length ≤ n * 10 ^ s.length := Nat.mul_le_mul_right _ (by omega)
    have h2 : n * 10 ^ s.length ≤ k := h2
    omega
  by_cases hp : 0 < n
  ·have hp' : ((n : Int) > 0) = True := by simp; omega
   have e1 : (n : Int).tmod 10 = ((n % 10 : Nat) : Int) := by rw [Int.tmod_eq_emod_of_nonneg (by omega)]; omega
   have e2 : (n : Int).tdiv 10 = ((n / 10 : Nat) : Int) := by rw [Int.tdiv_eq_ediv_of_nonneg (by omega)]; omega
   have e3 : IntKind.i64.wrap (48 + ((n % 10 : Nat) : Int)) = ((48 + n % 10 : Nat) : Int) := by rw [wrap_in (by omega) (by omega)]; omega
   have e4 : IntKind.u8.wrap ((48 + n % 10 : Nat) : Int) = ((48 + n % 10 : Nat) : Int) := wrap_u8 (by omega)
   have e5 : IntKind.i64.wrap ((n / 10 : Nat) : Int) = ((n / 10 : Nat) : Int) := wrap_in (by omega) (by omega)
   simp -implicitDefEqProofs only [go_sem, hp', e1, e2, e3, e4, e5]
   refine ⟨by omega, ?_⟩
   refine buildDc (by simp -implicitDefEqProofs only [go_sem]) ?_
   simp -implicitDefEqProofs only [go_sem]
   have hs' : s.length ≤ 18 := by omega
   refine ⟨by omega, by omega, (n / 10, UInt8.ofNat (48 + n % 10) :: s), ⟨?_, ?_, show s.length + 1 ≤ 19 by omega⟩, by omega, weak_hd (by simp -implicitDefEqProofs only [go_sem, e2, e5])⟩
   ·rw [h1]
    show (109 :: mtd (n + 1) n s : Str) = 109 :: mtd (n / 10 + 1) (n / 10) (UInt8.ofNat (48 + n % 10) :: s)
    rw [mtd_step _ _ _ hp, mtd_fuel n (n / 10 + 1) _ _ (by omega) (by omega)]
   ·show n / 10 * 10 ^ (s.length + 1) ≤ k
    rw [Nat.pow_succ, Nat.mul_comm _ 10, ← Nat.mul_assoc]
    exact Nat.le_trans (Nat.mul_le_mul_right _ (by omega)) h2
  ·have h0' : n = 0 := by omega
   subst h0'
   simp -implicitDefEqProofs only [go_sem]
   refine ⟨by omega, ?_⟩
   rw [h1]; simp [mtd]
end Go.Proofs.YtbccfiillleimaaGreat
