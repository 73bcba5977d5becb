/-
  The walk over plain data, and contracts of functions of the program and of its laws.
  Conditions: those that each theorem names.
-/
import Derived.Test.YtemnhgmgeijkcaaGreatQ3
import Derived.RangeFuncNested
import Derived.RangeFuncLeaves
namespace Go.Proofs.YtemnhgmgeijkcaaGreat
set_option linter.unusedSimpArgs false
set_option linter.unusedVariables false
set_option linter.unusedSectionVars false
set_option maxRecDepth 4000
open Go.RowKit
variable {P : Program}
abbrev Sr := Nat × Option (Nat × Nat)
def okQ : Option (Nat × Nat) -> Option (Nat × Nat) -> Bool
 | some a, some b => !(a.1 == b.1 && a.2 == b.2)
 | _, _ => false
def okS : List Sr -> Sr -> Bool
 | [], _ => true
 | (e, p) :: u, (e', p') => (if e = e' then okQ p p' else true) && okS u (e', p')
def owU (x : Option Ev) (sz : Nat) (rows : List (List T)) (g : Nat) : Prop := zaq x fun y => y.deep = true /\ y.sz = sz /\ (y.rows = rows \/ zfn y.rows = rows) /\ y.gen = g /\ y.on = true
def gvT (σ : St) (K : List Sr -> List (Nat × Nat × Nat) -> Prop) (u : List Sr) (ps : List (Nat × Nat × Nat)) (x t : T) : Prop := match x, ps with
 | .pin v y, (e, i, j) :: ps => y = t /\ okS u (e, some (i, j)) = true /\ onN (σ.ev e) i j v t /\ K ((e, some (i, j)) :: u) ps
 | x, ps => x = t /\ t.flat = true /\ K u ps
theorem qci {σ : St} {K K' : List Sr -> List (Nat × Nat × Nat) -> Prop} (hK : ∀ u ps, K u ps -> K' u ps) {u : List Sr} {ps : List (Nat × Nat × Nat)} {x t : T} (h : gvT σ K u ps x t) : gvT σ K' u ps x t := by
 unfold gvT at h ⊢
 split at h
 ·exact ⟨h.1, h.2.1, h.2.2.1, hK _ _ h.2.2.2⟩
 ·exact ⟨h.1, h.2.1, hK _ _ h.2.2⟩
def gvK (σ : St) (K : List Sr -> List (Nat × Nat × Nat) -> Prop) : List Sr -> List (Nat × Nat × Nat) -> List C -> List T -> Prop
 | u, ps, [], [] => K u ps
 | u, ps, .t x :: cs, t :: ts => gvT σ (fun u ps => gvK σ K u ps cs ts) u ps x t
 | u, ps, .nl _ :: cs, .sl _ rows :: ts => rows = [] /\ gvK σ K u ps cs ts
 | u, ps, .ow e g :: cs, .sl sz rows :: ts => okS u (e, none) = true /\ owU (σ.ev e) sz rows g /\ gvK σ K ((e, none) :: u) ps cs ts
 | u, (e, i, j) :: ps, .cv v :: cs, t :: ts => okS u (e, some (i, j)) = true /\ onN (σ.ev e) i j v t /\ gvK σ K ((e, some (i, j)) :: u) ps cs ts
 | _, _, _, _ => False
def rdC : C -> T -> Prop
 | .t x, y => x = y /\ T.nm y = true
 | .fn f [], .fn g [] => f = g
 | .rn x, y => x = y
 | .er cs o, .ptr cs' => o = 0 /\ cs = cs'
 | .nl _, .sl _ rows => rows = []
 | _, _ => False
def rdCs : List C -> List T -> Prop
 | [], [] => True
 | c :: cs, t :: ts => rdC c t /\ rdCs cs ts
 | _, _ => False
def rdV : V -> D -> Prop
 | .one c, .one t => rdC c t
 | .agg cs, .agg ts => rdCs cs ts
 | _, _ => False
def gvA (σ : St) (K : List Sr -> Prop) : List Sr -> List (Nat × Nat × Nat) -> List V -> List (Bool × D) -> Prop
 | u, _, [], [] => K u
 | u, ps, v :: vs, (false, d) :: ds => rdV v d /\ gvA σ K u ps vs ds
 | u, ps, .one c :: vs, (true, .one t) :: ds => gvK σ (fun u ps => gvA σ K u ps vs ds) u ps [c] [t]
 | u, ps, .agg cs :: vs, (true, .agg ts) :: ds => gvK σ (fun u ps => gvA σ K u ps vs ds) u ps cs ts
 | _, _, _, _ => False
theorem ze5 {σ : St} {K K' : List Sr -> List (Nat × Nat × Nat) -> Prop} (hK : ∀ u ps, K u ps -> K' u ps) : ∀ {cs : List C} {ts : List T} {u : List Sr} {ps : List (Nat × Nat × Nat)}, gvK σ K u ps cs ts -> gvK σ K' u ps cs ts
 | [], [], _, _, h => hK _ _ h
 | [], _ :: _, _, _, h => by cases h
 | c :: cs, [], u, ps, h => by cases c <;> first | exact (show False from h).elim | (cases ps <;> exact (show False from h).elim)
 | c :: cs, t :: ts, u, ps, h => by
  unfold gvK at h ⊢
  split at h
  ·rename_i e1 e2; cases e1
  ·rename_i e1 e2; cases e1; cases e2; exact qci (fun u ps h => ze5 hK h) h
  ·rename_i e1 e2; cases e1; cases e2; exact ⟨h.1, ze5 hK h.2⟩
  ·rename_i e1 e2; cases e1; cases e2; exact ⟨h.1, h.2.1, ze5 hK h.2.2⟩
  ·rename_i e1 e2; cases e1; cases e2; exact ⟨h.1, h.2.1, ze5 hK h.2.2⟩
  ·exact h.elim
theorem zf2 {σ : St} {K K' : List Sr -> Prop} (hK : ∀ u, K u -> K' u) : ∀ {xs : List V} {ds : List (Bool × D)} {u : List Sr} {ps : List (Nat × Nat × Nat)}, gvA σ K u ps xs ds -> gvA σ K' u ps xs ds
 | [], [], _, _, h => hK _ h
 | [], _ :: _, _, _, h => h.elim
 | x :: xs, [], _, _, h => by cases x <;> exact h.elim
 | x :: xs, (false, d) :: ds, _, _, h => by unfold gvA at h ⊢; exact ⟨h.1, zf2 hK h.2⟩
 | .one c :: xs, (true, .one t) :: ds, _, _, h => by unfold gvA at h ⊢; exact ze5 (fun u ps hu => zf2 hK hu) h
 | .agg cs :: xs, (true, .agg ts) :: ds, _, _, h => by unfold gvA at h ⊢; exact ze5 (fun u ps hu => zf2 hK hu) h
 | .one _ :: _, (true, .agg _) :: _, _, _, h => h.elim
 | .agg _ :: _, (true, .one _) :: _, _, _, h => h.elim
 | .tup _ :: _, (true, d) :: _, _, _, h => by cases d <;> exact h.elim
theorem zas.fam {w : World} : ∀ {cs : List T} {vs : List Value} {fps : List Nat}, zas w cs vs fps -> ∃ F : Nat -> List Nat, (∀ k c, cs[k]? = some c -> ∃ v, vs[k]? = some v /\ zax w c v (F k)) /\ (∀ k b, b ∈ F k -> b ∈ fps) /\ (fps.Nodup -> (∀ k, (F k).Nodup) /\ ∀ k k', k ≠ k' -> ∀ b ∈ F k, b ∉ F k')
 | [], vs, fps, h => ⟨fun _ => [], fun k c hc => by simp at hc, by simp, fun _ => ⟨by simp, by simp⟩⟩
 | c :: cs, _, _, h => by
  obtain ⟨v, vs', f1, f2, rfl, rfl, h1, h2⟩ := h
  obtain ⟨F, k1, k2, k3⟩ := zas.fam h2
  refine ⟨fun k => match k with | 0 => f1 | k + 1 => F k, fun k c' hc => ?_, fun k b hb => ?_, fun hn => ?_⟩
  ·cases k with
   | zero => simp only [List.getElem?_cons_zero, Option.some.injEq] at hc; subst hc; exact ⟨v, rfl, h1⟩
   | succ k => exact k1 k c' (by simpa using hc)
  ·cases k with
   | zero => exact List.mem_append_left _ hb
   | succ k => exact List.mem_append_right _ (k2 k b hb)
  ·obtain ⟨n1, n2, n3⟩ := List.nodup_append.1 hn
   obtain ⟨m1, m2⟩ := k3 n2
   refine ⟨fun k => ?_, fun k k' hne b hb hb' => ?_⟩
   ·cases k with
    | zero => exact n1
    | succ k => exact m1 k
   ·cases k with
    | zero =>
     cases k' with
     | zero => exact hne rfl
     | succ k' => exact n3 b hb b (k2 k' b hb') rfl
    | succ k =>
     cases k' with
     | zero => exact n3 b hb' b (k2 k b hb) rfl
     | succ k' => exact m2 k k' (by omega) b hb hb'
theorem zxb {sz : Nat} : ∀ {rows : List (List T)} {i j : Nat} {r : List T} {c : T}, lens sz rows -> rows[i]? = some r -> r[j]? = some c -> rows.flatten[i * sz + j]? = some c
 | [], _, _, _, _, _, h, _ => by simp at h
 | d :: rows, 0, j, r, c, hl, hr, hc => by
  simp only [List.getElem?_cons_zero, Option.some.injEq] at hr
  subst hr
  have hj : j < d.length := by
   rcases Nat.lt_or_ge j d.length with h | h
   ·exact h
   ·rw [List.getElem?_eq_none h] at hc; cases hc
  rw [List.flatten_cons, List.getElem?_append_left (by omega)]
  simpa using hc
 | d :: rows, i + 1, j, r, c, hl, hr, hc => by
  have hd : d.length = sz := hl d (by simp)
  have := zxb (sz := sz) (rows := rows) (fun r hr => hl r (by simp [hr])) (by simpa using hr) hc
  rw [List.flatten_cons, List.getElem?_append_right (by rw [hd, Nat.add_mul]; omega)]
  rwa [show (i + 1) * sz + j - d.length = i * sz + j by rw [hd, Nat.add_mul]; omega]
structure Fam (w : World) (σ : St) (g : Gh) (B : Sr -> List Nat) : Prop where
 whole : ∀ e, B (e, none) = g.φ e
 cell : ∀ e i j v t, onN (σ.ev e) i j v t -> zax w t v (B (e, some (i, j)))
 sub : ∀ e p b, σ.On e -> b ∈ B (e, p) -> b ∈ g.φ e
 nodup : ∀ e p, σ.On e -> (B (e, p)).Nodup
 apart : ∀ e p p', σ.On e -> p ≠ p' -> ∀ b ∈ B (e, some p), b ∉ B (e, some p')
theorem Rel.fam {n0 : Nat -> Prop} {N : Nat} {σ : St} {g : Gh} {a : Act} {w : World} (hR : Rel n0 N σ g a w) : ∃ B, Fam w σ g B := by
 have h1 : ∀ e, ∃ F : Nat × Nat -> List Nat, ∀ dp sz rows gn, σ.ev e = some ⟨dp, sz, rows, gn, true⟩ -> ((dp = true -> ∀ i j v t, rows[i]?.isSome = true -> (rows.getD i [])[j]? = some (.pin v t) -> zax w t v (F (i, j))) /\ (∀ p b, b ∈ F p -> b ∈ g.φ e) /\ (∀ p, (F p).Nodup) /\ ∀ p p', p ≠ p' -> ∀ b ∈ F p, b ∉ F p') := by
  intro e
  by_cases hon : ∃ sz rows gn, σ.ev e = some ⟨true, sz, rows, gn, true⟩
  ·obtain ⟨sz, rows, gn, he⟩ := hon
   have hnd := hR.nodup e ⟨_, he, rfl⟩
   obtain ⟨ao, cap, vs, k1, k2, k3, k4, k5, k6, k7⟩ := hR.vals he rfl
   rcases k7 with ⟨_, _, k7, k8⟩ | ⟨b, cells, ty, fps, k7, k8, k9, k10, k11, k12, k13⟩
   ·refine ⟨fun _ => [], fun dp sz' rows' gn' he' => ?_⟩
    rw [he, Option.some.injEq] at he'
    cases he'
    have k7 : rows = [] := k7
    subst k7
    exact ⟨fun _ i j v t h => by simp at h, by simp, by simp, by simp⟩
   ·obtain ⟨F, f1, f2, f3⟩ := (k12 rfl).fam
    rw [k8] at hnd
    obtain ⟨m1, m2⟩ := f3 (List.nodup_cons.1 hnd).2
    refine ⟨fun p => if p.2 < sz /\ p.1 < rows.length then F (p.1 * sz + p.2) else [], fun dp sz' rows' gn' he' => ?_⟩
    rw [he, Option.some.injEq] at he'
    cases he'
    refine ⟨fun _ i j v t h1 h2 => ?_, fun p b hb => ?_, fun p => ?_, fun p p' hne b hb hb' => ?_⟩
    ·obtain ⟨r, hr⟩ := Option.isSome_iff_exists.1 h1
     have hg : rows.getD i [] = r := by rw [List.getD_eq_getElem?_getD, hr]; rfl
     rw [hg] at h2
     have hj : j < sz := by
      have : r.length = sz := k4 r (List.mem_of_getElem? hr)
      rcases Nat.lt_or_ge j r.length with h | h
      ·omega
      ·rw [List.getElem?_eq_none h] at h2; cases h2
     have hi : i < rows.length := (List.getElem?_eq_some_iff.1 hr).1
     obtain ⟨u, _, hu⟩ := f1 _ _ (zxb k4 hr h2)
     show zax w t v (if j < sz /\ i < rows.length then F (i * sz + j) else [])
     rw [if_pos ⟨hj, hi⟩]
     unfold zax at hu
     obtain ⟨rfl, hu⟩ := hu
     exact hu
    ·by_cases hp : p.2 < sz /\ p.1 < rows.length
     ·simp only [if_pos hp] at hb; rw [k8]; exact List.mem_cons_of_mem _ (f2 _ _ hb)
     ·simp only [if_neg hp] at hb; simp at hb
    ·by_cases hp : p.2 < sz /\ p.1 < rows.length
     ·simp only [if_pos hp]; exact m1 _
     ·simp only [if_neg hp]; simp
    ·by_cases hp : p.2 < sz /\ p.1 < rows.length
     ·by_cases hp' : p'.2 < sz /\ p'.1 < rows.length
      ·simp only [if_pos hp, if_pos hp'] at hb hb'
       refine m2 _ _ (fun heq => hne ?_) b hb hb'
       obtain ⟨i, j⟩ := p
       obtain ⟨i', j'⟩ := p'
       simp only at hp hp' heq
       have hii : i = i' := by
        rcases Nat.lt_trichotomy i i' with h | h | h
        ·have := Nat.mul_le_mul_right sz (show i + 1 <= i' by omega); rw [Nat.add_mul] at this; omega
        ·exact h
        ·have := Nat.mul_le_mul_right sz (show i' + 1 <= i by omega); rw [Nat.add_mul] at this; omega
       subst hii
       have : j = j' := by omega
       subst this; rfl
      ·simp only [if_neg hp'] at hb'; simp at hb'
     ·simp only [if_neg hp] at hb; simp at hb
  ·refine ⟨fun _ => [], fun dp sz rows gn he => ⟨fun hd => ?_, by simp, by simp, by simp⟩⟩
   subst hd
   exact absurd ⟨sz, rows, gn, he⟩ hon
 refine ⟨fun s => match s.2 with | none => g.φ s.1 | some p => Classical.choose (h1 s.1) p, ⟨fun e => rfl, fun e i j v t ho => ?_, fun e p b ho hb => ?_, fun e p ho => ?_, fun e p p' ho hne b hb => ?_⟩⟩
 ·obtain ⟨⟨dp, sz, rows, gn, on⟩, he, h2, h3, h4, h5⟩ := zap ho
  simp only at h2 h3
  subst h2 h3
  exact (Classical.choose_spec (h1 e) true sz rows gn he).1 rfl i j v t h4 h5
 ·cases p with
  | none => exact hb
  | some p =>
   obtain ⟨⟨dp, sz, rows, gn, on⟩, he, ho⟩ := ho
   simp only at ho
   subst ho
   exact (Classical.choose_spec (h1 e) dp sz rows gn he).2.1 p b hb
 ·cases p with
  | none => exact hR.nodup e ho
  | some p =>
   obtain ⟨⟨dp, sz, rows, gn, on⟩, he, ho⟩ := ho
   simp only at ho
   subst ho
   exact (Classical.choose_spec (h1 e) dp sz rows gn he).2.2.1 p
 ·obtain ⟨⟨dp, sz, rows, gn, on⟩, he, ho⟩ := ho
  simp only at ho
  subst ho
  exact (Classical.choose_spec (h1 e) dp sz rows gn he).2.2.2 p p' hne b hb
def bks (B : Sr -> List Nat) (u : List Sr) : List Nat := u.flatMap B
def okP (s s' : Sr) : Prop := s.1 ≠ s'.1 \/ (s.2 ≠ none /\ s'.2 ≠ none /\ s.2 ≠ s'.2)
theorem okP.symm {s s' : Sr} (h : okP s s') : okP s' s := h.imp (fun h => Ne.symm h) fun h => ⟨h.2.1, h.1, Ne.symm h.2.2⟩
theorem zr4 : ∀ {u : List Sr} {s : Sr}, okS u s = true -> ∀ x ∈ u, okP s x
 | [], _, _, x, hx => by simp at hx
 | (e, p) :: u, (e', p'), h, x, hx => by
  unfold okS at h
  rw [Bool.and_eq_true] at h
  rcases List.mem_cons.1 hx with rfl | hx
  ·have h1 := h.1
   by_cases he : e = e'
   ·rw [if_pos he] at h1
    right
    unfold okQ at h1
    split at h1
    ·rename_i a b
     refine ⟨by simp, by simp, fun e => ?_⟩
     simp only [Option.some.injEq] at e
     subst e
     simp at h1
    ·cases h1
   ·left; exact Ne.symm he
  ·exact zr4 h.2 x hx
theorem ze3 {n0 : Nat -> Prop} {N : Nat} {σ : St} {g : Gh} {a : Act} {w : World} (hR : Rel n0 N σ g a w) {B : Sr -> List Nat} (hB : Fam w σ g B) : ∀ {s : List Sr}, (∀ x ∈ s, σ.On x.1) -> s.Pairwise okP -> (bks B s).Nodup
 | [], _, _ => List.nodup_nil
 | x :: s, ho, hp => by
  obtain ⟨p1, p2⟩ := List.pairwise_cons.1 hp
  unfold bks
  rw [List.flatMap_cons]
  refine List.nodup_append.2 ⟨hB.nodup x.1 x.2 (ho x (by simp)), ze3 hR hB (fun y hy => ho y (by simp [hy])) p2, fun b hb b' hb' hbb => ?_⟩
  subst hbb
  obtain ⟨y, hy, hb'⟩ := List.mem_flatMap.1 hb'
  obtain ⟨e, p⟩ := x
  obtain ⟨e', p'⟩ := y
  have o1 := ho (e, p) (by simp)
  have o2 := ho (e', p') (by simp [hy])
  rcases p1 (e', p') hy with h | ⟨h1, h2, h3⟩
  ·exact hR.apart e e' o1 o2 h b (hB.sub e p b o1 hb) (hB.sub e' p' b o2 hb')
  ·by_cases hee : e = e'
   ·subst hee
    cases p with
    | none => exact h1 rfl
    | some p =>
     cases p' with
     | none => exact h2 rfl
     | some p' => exact hB.apart e p p' o1 (fun h => h3 (by rw [h])) b hb hb'
   ·exact hR.apart e e' o1 o2 hee b (hB.sub e p b o1 hb) (hB.sub e' p' b o2 hb')
theorem qfb {σ : St} {e i j : Nat} {v : Value} {t : T} (h : onN (σ.ev e) i j v t) : σ.On e := by
 obtain ⟨x, hx, h2, _⟩ := zap h
 exact ⟨x, hx, h2⟩
section
variable {n0 : Nat -> Prop} {N : Nat} {σ : St} {g : Gh} {a : Act} {w : World} (hR : Rel n0 N σ g a w) {B : Sr -> List Nat} (hB : Fam w σ g B)
include hR hB
theorem zcm {K : List Sr -> List (Nat × Nat × Nat) -> Prop} : ∀ {cs : List C} {ts : List T} {u : List Sr} {ps : List (Nat × Nat × Nat)} {vs : List Value}, gvK σ K u ps cs ts -> CRs σ g w cs vs →
  ∃ s ps' tp, K (s.reverse ++ u) ps' /\ zrb w ts vs (bks B s) tp /\ (∀ x ∈ s, σ.On x.1) /\ (u.Pairwise okP -> (s.reverse ++ u).Pairwise okP)
 | [], [], u, ps, vs, h, hv => ⟨[], ps, [], h, ⟨hv, rfl, rfl⟩, by simp, fun h => h⟩
 | [], _ :: _, _, _, _, h, _ => by cases h
 | c :: cs, [], u, ps, vs, h, hv => by cases c <;> first | exact (show False from h).elim | (cases ps <;> exact (show False from h).elim)
 | c :: cs, t :: ts, u, ps, vs, h, hv => by
  obtain ⟨v, vs', rfl, h1, h2⟩ := hv
  unfold gvK at h
  split at h
  ·rename_i e1 e2; cases e1
  ·rename_i x cs' t' ts' e1 e2
   cases e1; cases e2
   unfold gvT at h
   split at h
   ·rename_i v0 y e i j ps0
    obtain ⟨rfl, hok, he, h⟩ := h
    obtain ⟨s, ps', tp, k1, k2, k3, k4⟩ := zcm h h2
    unfold CR zal at h1
    obtain ⟨rfl, _⟩ := h1
    have ho := hB.cell e i j v y he
    refine ⟨(e, some (i, j)) :: s, ps', zhy y (B (e, some (i, j))) ++ tp, by simpa using k1, ⟨v, vs', _, bks B s, tp, rfl, by unfold bks; rw [List.flatMap_cons], rfl, ho, k2⟩, fun x hx => ?_, fun hu => ?_⟩
    ·rcases List.mem_cons.1 hx with rfl | hx
     ·exact qfb he
     ·exact k3 x hx
    ·have := k4 (List.pairwise_cons.2 ⟨zr4 hok, hu⟩)
     simpa using this
   obtain ⟨rfl, hf, h⟩ := h
   obtain ⟨s, ps', tp, k1, k2, k3, k4⟩ := zcm h h2
   have ho : zax w x v [] := by
    cases x <;> simp only [T.flat, Bool.false_eq_true] at hf <;> simp only [CR, zal] at h1 <;> unfold zax
    ·exact ⟨h1.1, h1.2.1, h1.2.2, rfl⟩
    ·exact ⟨h1, rfl⟩
    ·exact ⟨h1.1, h1.2, rfl⟩
    ·exact ⟨h1, rfl⟩
   exact ⟨s, ps', zhy x [] ++ tp, k1, ⟨v, vs', [], _, tp, rfl, rfl, rfl, ho, k2⟩, k3, k4⟩
  ·rename_i z cs' sz rows ts' e1 e2
   cases e1; cases e2
   obtain ⟨rfl, h⟩ := h
   obtain ⟨s, ps', tp, k1, k2, k3, k4⟩ := zcm h h2
   have ho : zax w (.sl sz []) v [] := by
    unfold zax
    exact ⟨none, 0, h1, by simp, by simp, Or.inl ⟨rfl, rfl, rfl, rfl⟩⟩
   exact ⟨s, ps', zhy (.sl sz []) [] ++ tp, k1, ⟨v, vs', [], _, tp, rfl, rfl, rfl, ho, k2⟩, k3, k4⟩
  ·rename_i e gn cs' sz rows ts' e1 e2
   cases e1; cases e2
   obtain ⟨hok, he, h⟩ := h
   obtain ⟨s, ps', tp, k1, k2, k3, k4⟩ := zcm h h2
   have hou := he
   obtain ⟨⟨dp, sz0, rows0, gn0, on0⟩, hev, rfl, rfl, hrows, rfl, rfl⟩ := zap hou
   have ho : zax w (.sl sz0 rows) (g.ψ e gn0) (g.φ e) := by
    rcases hrows with rfl | rfl
    ·exact zft hR hev
    ·exact (zft hR hev).unpins
   have h1 : v = g.ψ e gn0 /\ _ := h1
   rw [<- h1.1] at ho
   refine ⟨(e, none) :: s, ps', zhy (.sl _ _) (g.φ e) ++ tp, by simpa using k1, ⟨v, vs', g.φ e, bks B s, tp, rfl, by unfold bks; rw [List.flatMap_cons, hB.whole], rfl, ho, k2⟩, fun x hx => ?_, fun hu => ?_⟩
   ·rcases List.mem_cons.1 hx with rfl | hx
    ·exact ⟨_, hev, rfl⟩
    ·exact k3 x hx
   ·have := k4 (List.pairwise_cons.2 ⟨zr4 hok, hu⟩)
    simpa using this
  ·rename_i e i j ps0 v0 cs' t' ts' e1 e2
   cases e1; cases e2
   obtain ⟨hok, he, h⟩ := h
   obtain ⟨s, ps', tp, k1, k2, k3, k4⟩ := zcm h h2
   have h1 : v = v0 := h1
   subst h1
   have ho := hB.cell e i j v t he
   refine ⟨(e, some (i, j)) :: s, ps', zhy t (B (e, some (i, j))) ++ tp, by simpa using k1, ⟨v, vs', _, bks B s, tp, rfl, by unfold bks; rw [List.flatMap_cons], rfl, ho, k2⟩, fun x hx => ?_, fun hu => ?_⟩
   ·rcases List.mem_cons.1 hx with rfl | hx
    ·exact qfb he
    ·exact k3 x hx
   ·have := k4 (List.pairwise_cons.2 ⟨zr4 hok, hu⟩)
    simpa using this
  ·exact h.elim
omit hB in
theorem zy1 {FP : List Nat} (hFP : ∀ b ∈ FP, ∃ e, σ.On e /\ b ∈ g.φ e) {c : C} {t : T} {v : Value} (h : rdC c t) (hv : CR σ g w c v) : zal w (fun b => b < w.heap.size /\ b ∉ FP) t v := by
 unfold rdC at h
 split at h
 ·rename_i x
  obtain ⟨rfl, hn⟩ := h
  exact ziy (σ := σ) (g := g) (x := .one (.t x)) (d := .one x) ⟨rfl, hn⟩ hv _
 ·rename_i f f'
  subst h
  exact ziy (σ := σ) (g := g) (x := .one (.fn f [])) (d := .one (.fn f [])) rfl hv _
 ·subst h
  refine zal.keep (fun _ _ => rfl) (fun b hb => ⟨hb.1.2.2.1, fun hm => ?_⟩) _ v hv
  obtain ⟨e, ho, hm⟩ := hFP b hm
  exact hb.2 e ho hm
 ·obtain ⟨rfl, rfl⟩ := h
  obtain ⟨b, q, h1, h2, h3⟩ := hv
  have hk : ∀ b, zcg σ g w b -> b < w.heap.size /\ b ∉ FP := fun b hb => ⟨hb.1.2.2.1, fun hm => by obtain ⟨e, ho, hm⟩ := hFP b hm; exact hb.2 e ho hm⟩
  unfold zal
  exact ⟨b, q, h1, hk b h2, za5.keep (fun _ _ => rfl) hk b rfl q _ h3⟩
 ·subst h
  rw [show v = .slice none 0 0 from hv]
  unfold zal
  exact ⟨none, 0, rfl, by simp, by simp, Or.inl rfl⟩
 ·exact h.elim
omit hB in
theorem zqu {FP : List Nat} (hFP : ∀ b ∈ FP, ∃ e, σ.On e /\ b ∈ g.φ e) : ∀ {cs : List C} {ts : List T} {vs : List Value}, rdCs cs ts -> CRs σ g w cs vs -> zad w (fun b => b < w.heap.size /\ b ∉ FP) ts vs
 | [], [], vs, _, hv => by unfold zad; exact hv
 | [], _ :: _, _, h, _ => h.elim
 | _ :: _, [], _, h, _ => h.elim
 | c :: cs, t :: ts, vs, h, hv => by
  obtain ⟨v, vs', rfl, h1, h2⟩ := hv
  unfold zad
  exact ⟨v, vs', rfl, zy1 hR hFP h.1 h1, zqu hFP h.2 h2⟩
theorem zes {K : List Sr -> Prop} : ∀ {xs : List V} {ds : List (Bool × D)} {u : List Sr} {ps : List (Nat × Nat × Nat)} {vs : List Value}, gvA σ K u ps xs ds -> VRl σ g w xs vs →
  ∃ s, K (s.reverse ++ u) /\ (∀ FP : List Nat, (∀ b ∈ FP, ∃ e, σ.On e /\ b ∈ g.φ e) -> ∃ tp, za0 w (fun b => b < w.heap.size /\ b ∉ FP) ds vs (bks B s) tp) /\ (∀ x ∈ s, σ.On x.1) /\ (u.Pairwise okP -> (s.reverse ++ u).Pairwise okP)
 | [], [], u, ps, vs, h, hv => ⟨[], h, fun _ _ => ⟨[], hv, rfl, rfl⟩, by simp, fun h => h⟩
 | [], _ :: _, _, _, _, h, _ => h.elim
 | x :: xs, [], _, _, _, h, _ => by cases x <;> exact h.elim
 | x :: xs, (false, d) :: ds, u, ps, vs, h, hv => by
  obtain ⟨v, vs', rfl, h1, h2⟩ := hv
  unfold gvA at h
  obtain ⟨hr, h⟩ := h
  obtain ⟨s, k1, k2, k3, k4⟩ := zes h h2
  refine ⟨s, k1, fun FP hFP => ?_, k3, k4⟩
  obtain ⟨tp, k2⟩ := k2 FP hFP
  refine ⟨tp, v, vs', rfl, ?_, k2⟩
  unfold rdV at hr
  split at hr
  ·exact zy1 hR hFP hr h1
  ·obtain ⟨b, e, h1⟩ := h1; exact ⟨b, e, zqu hR hFP hr h1⟩
  ·exact hr.elim
 | .one c :: xs, (true, .one t) :: ds, u, ps, vs, h, hv => by
  obtain ⟨v, vs', rfl, h1, h2⟩ := hv
  unfold gvA at h
  obtain ⟨s, ps', tp, k1, k2, k3, k4⟩ := zcm hR hB h (vs := [v]) ⟨v, [], rfl, h1, rfl⟩
  obtain ⟨s', j1, j2, j3, j4⟩ := zes k1 h2
  obtain ⟨v0, vs0, f1, f2, t2, e0, e1, rfl, q1, q2⟩ := k2
  cases e0
  obtain ⟨_, rfl, rfl⟩ := q2
  rw [List.append_nil] at e1
  refine ⟨s ++ s', by simpa using j1, fun FP hFP => ?_, fun x hx => ?_, fun hu => by simpa using j4 (k4 hu)⟩
  ·obtain ⟨tp', j2⟩ := j2 FP hFP
   exact ⟨zhy t f1 ++ tp', v, vs', bks B s, bks B s', _, tp', rfl, by unfold bks; rw [List.flatMap_append], rfl, ⟨by rw [e1]; exact q1, by rw [e1]⟩, j2⟩
  ·rcases List.mem_append.1 hx with hx | hx
   ·exact k3 x hx
   ·exact j3 x hx
 | .agg cs :: xs, (true, .agg ts) :: ds, u, ps, vs, h, hv => by
  obtain ⟨v, vs', rfl, ⟨y, rfl, h1⟩, h2⟩ := hv
  unfold gvA at h
  obtain ⟨s, ps', tp, k1, k2, k3, k4⟩ := zcm hR hB h h1
  obtain ⟨s', j1, j2, j3, j4⟩ := zes k1 h2
  refine ⟨s ++ s', by simpa using j1, fun FP hFP => ?_, fun x hx => ?_, fun hu => by simpa using j4 (k4 hu)⟩
  ·obtain ⟨tp', j2⟩ := j2 FP hFP
   exact ⟨tp ++ tp', _, vs', bks B s, bks B s', tp, tp', rfl, by unfold bks; rw [List.flatMap_append], rfl, ⟨y, rfl, k2⟩, j2⟩
  ·rcases List.mem_append.1 hx with hx | hx
   ·exact k3 x hx
   ·exact j3 x hx
 | .one _ :: _, (true, .agg _) :: _, _, _, _, h, _ => h.elim
 | .agg _ :: _, (true, .one _) :: _, _, _, _, h, _ => h.elim
 | .tup _ :: _, (true, d) :: _, _, _, _, h, _ => by cases d <;> exact h.elim
end
end Go.Proofs.YtemnhgmgeijkcaaGreat
namespace Go.Proofs.YtemnhgmgeijkcaaGreat
set_option linter.unusedSimpArgs false
set_option linter.unusedVariables false
set_option linter.unusedSectionVars false
set_option maxRecDepth 4000
open Go.RowKit
variable {P : Program}
def C.okU (τ : St) : C -> Prop
 | .t x => x.flat = true
 | .nl _ => True
 | .ow e g => zaq (τ.ev e) fun x => g <= x.gen
 | .bx b _ => τ.bx b ≠ none
 | .el _ _ => False
 | .er _ _ => True
 | .eo e s _ _ _ => zaq (τ.ev e) fun x => s <= x.gen
 | .fn _ caps => zsy τ caps
 | .cv _ => True
 | .any => True
 | .rn _ => True
def qfh (τ : St) : List C -> Prop
 | [] => True
 | c :: cs => c.okU τ /\ qfh τ cs
def okUt (τ : St) : List (Bool × List C) -> Prop
 | [] => True
 | x :: xs => qfh τ x.2 /\ okUt τ xs
def V.okU (τ : St) : V -> Prop
 | .one c => c.okU τ
 | .agg cs => qfh τ cs
 | .tup xs => okUt τ xs
structure Kept (σ τ : St) : Prop where
 sl : ∀ i, τ.sl i = .one .any \/ (τ.sl i = σ.sl i /\ (τ.sl i).okU τ)
 bx : ∀ b cs, τ.bx b = some cs -> σ.bx b = some cs /\ qfh τ cs
 ev : ∀ e x, τ.ev e = some x -> σ.ev e = some x /\ x.on = true /\ x.deep = true
section
variable {σ τ : St} {g g' : Gh} {w w' : World} {ev' : Nat -> Option Ev} (hβ : g'.β = g.β) (hψ : ∀ e, τ.ev e ≠ none -> ev' e = τ.ev e /\ g'.ψ e = g.ψ e) (hrn : ∀ b, zcg σ g w b -> w'.heap[b]? = w.heap[b]? /\ zcg ⟨τ.sl, τ.bx, ev'⟩ g' w' b)
include hβ hψ hrn
theorem zxe {c : C} {v : Value} (hc : c.okU τ) (h : CR σ g w c v) : CR ⟨τ.sl, τ.bx, ev'⟩ g' w' c v := by
 have hh : ∀ {e n : Nat}, zaq (τ.ev e) (fun x => n <= x.gen) -> g'.ψ e = g.ψ e /\ St.has ⟨τ.sl, τ.bx, ev'⟩ e n := fun {e n} ho => by
  obtain ⟨x, hx, hn⟩ := zap ho
  obtain ⟨k1, k2⟩ := hψ e (by rw [hx]; simp)
  exact ⟨k2, x, k1.trans hx, hn⟩
 cases c with
 | t x => exact zdm hc h
 | nl s => exact h
 | ow e n => obtain ⟨k1, k2⟩ := hh hc; exact ⟨by rw [k1]; exact h.1, k2⟩
 | bx b o => exact ⟨by rw [hβ]; exact h.1, hc⟩
 | el cs o => exact hc.elim
 | eo e s sz i o => obtain ⟨k1, k2⟩ := hh hc; obtain ⟨b, n, c, q1, q2, q3, q4⟩ := h; exact ⟨b, n, c, by rw [k1]; exact q1, q2, q3, k2⟩
 | fn f caps => exact ⟨by rw [hβ]; exact h.1, fun b hb => zim (show zsy τ caps from hc) b hb⟩
 | cv u => exact h
 | any => trivial
 | rn x => exact zal.keep (fun b hb => (hrn b hb).1) (fun b hb => (hrn b hb).2) x v h
 | er cs o => obtain ⟨b, q, h1, h2, h3⟩ := h; exact ⟨b, q, h1, (hrn b h2).2, za5.keep (fun b hb => (hrn b hb).1) (fun b hb => (hrn b hb).2) b (hrn b h2).1 q cs h3⟩
theorem zlu : ∀ {cs : List C} {vs : List Value}, qfh τ cs -> CRs σ g w cs vs -> CRs ⟨τ.sl, τ.bx, ev'⟩ g' w' cs vs
 | [], _, _, h => h
 | c :: cs, vs, hc, h => by
  obtain ⟨v, vs', rfl, h1, h2⟩ := h
  exact ⟨v, vs', rfl, zxe hβ hψ hrn hc.1 h1, zlu hc.2 h2⟩
theorem zzn : ∀ {xs : List (Bool × List C)} {vs : List Value}, okUt τ xs -> CRt σ g w xs vs -> CRt ⟨τ.sl, τ.bx, ev'⟩ g' w' xs vs
 | [], _, _, h => h
 | x :: xs, vs, hc, h => by
  obtain ⟨v, vs', rfl, h1, h2⟩ := h
  refine ⟨v, vs', rfl, ?_, zzn hc.2 h2⟩
  unfold CRx at h1 ⊢
  split at h1
  ·rw [if_pos ‹_›]; obtain ⟨a, k1, k2⟩ := h1; exact ⟨a, k1, zlu hβ hψ hrn hc.1 k2⟩
  ·rw [if_neg ‹_›]
   obtain ⟨c, k1, k2⟩ := h1
   refine ⟨c, k1, zxe hβ hψ hrn ?_ k2⟩
   have := hc.1
   rw [k1] at this
   exact this.1
theorem okU_vr {x : V} {v : Value} (hc : x.okU τ) (h : VR σ g w x v) : VR ⟨τ.sl, τ.bx, ev'⟩ g' w' x v := by
 cases x with
 | one c => exact zxe hβ hψ hrn hc h
 | agg cs => obtain ⟨a, k1, k2⟩ := h; exact ⟨a, k1, zlu hβ hψ hrn hc k2⟩
 | tup xs => obtain ⟨a, k1, k2⟩ := h; exact ⟨a, k1, zzn hβ hψ hrn hc k2⟩
end
theorem Rel.given {n0 : Nat -> Prop} {N : Nat} {σ τ : St} {g g' : Gh} {a : Act} {w w' : World} (hR : Rel n0 N σ g a w) (hn0 : LtK n0 w) (hK : Kept σ τ) {fp : List Nat} (hfp : ∀ b ∈ fp, ∃ e, σ.On e /\ τ.ev e = none /\ b ∈ g.φ e) (hbk : Bk (fun k => k < w.heap.size /\ k ∉ fp) w w')
  {ev' : Nat -> Option Ev} {F : List Nat} (hn : New τ g (fun b => b ∈ fp \/ w.heap.size <= b) w' ev' g' F) : Rel n0 N ⟨τ.sl, τ.bx, ev'⟩ g' a w' := by
 have hOnσ : ∀ e, τ.On e -> σ.On e := fun e ⟨x, hx, ho⟩ => ⟨x, (hK.ev e x hx).1, ho⟩
 have hlt : ∀ e, σ.On e -> ∀ b ∈ g.φ e, b < w.heap.size := fun e ⟨x, hx, ho⟩ => (hR.evs e x hx ho).lt
 have hbne : ∀ b, τ.bx b ≠ none -> σ.bx b ≠ none := fun b hb => by
  obtain ⟨cs, hcs⟩ := Option.ne_none_iff_exists'.1 hb
  rw [(hK.bx b cs hcs).1]; simp
 have hfR : ∀ b ∈ fp, g.A0 b /\ g.R0 b /\ ¬ n0 b := fun b hb => by
  obtain ⟨e, ho, _, hm⟩ := hfp b hb
  obtain ⟨k1, k2⟩ := hR.ebase e ho b hm
  exact ⟨k1, k2, hR.etop e ho b hm⟩
 have hNB : ∀ b, (b ∈ fp \/ w.heap.size <= b) -> g.A0 b /\ g.R0 b /\ ¬ n0 b := fun b hb => by
  rcases hb with hb | hb
  ·exact hfR b hb
  ·have hnn := hn0.new hb
   exact ⟨(hR.anew b hnn).1, (hR.anew b hnn).2, hnn⟩
 have hβfp : ∀ b, τ.bx b ≠ none -> ¬ (g.β b ∈ fp \/ w.heap.size <= g.β b) := fun b hb h => by
  rcases h with h | h
  ·obtain ⟨e, ho, _, hm⟩ := hfp _ h
   exact hR.ebx e b ho (hbne b hb) hm
  ·have := hR.lt (hbne b hb); omega
 have hφfp : ∀ e, τ.On e -> ∀ b ∈ g.φ e, ¬ (b ∈ fp \/ w.heap.size <= b) := fun e ho b hb h => by
  rcases h with h | h
  ·obtain ⟨e', ho', hno, hm⟩ := hfp b h
   refine hR.apart e e' (hOnσ e ho) ho' (fun hee => ?_) b hb hm
   subst hee
   obtain ⟨x, hx, _⟩ := ho
   rw [hx] at hno; cases hno
  ·have := hlt e (hOnσ e ho) b hb; omega
 have hon : ∀ e, St.On ⟨τ.sl, τ.bx, ev'⟩ e -> τ.ev e ≠ none -> τ.On e := fun e ⟨x, hx, ho⟩ hee => ⟨x, (hn.old e hee).1.symm.trans hx, ho⟩
 have hkeep : ∀ b, b < w.heap.size -> b ∉ fp -> w'.heap[b]? = w.heap[b]? := fun b h1 h2 => hbk.block b ⟨h1, h2⟩
 have hrn : ∀ b, zcg σ g w b -> w'.heap[b]? = w.heap[b]? /\ zcg ⟨τ.sl, τ.bx, ev'⟩ g' w' b := fun b hb => by
  obtain ⟨hf, hr⟩ := hb
  have hnb : ∀ e, St.On ⟨τ.sl, τ.bx, ev'⟩ e -> b ∉ g'.φ e := fun e ho hm => by
   by_cases hee : τ.ev e = none
   ·obtain ⟨x, hx, _⟩ := ho
    rcases ((hn.new e x hee hx).2.2.1 b hm).1 with h | h
    ·obtain ⟨e', ho', _, hm'⟩ := hfp b h
     exact hr e' ho' hm'
    ·have := hf.2.2.1; omega
   ·rw [(hn.old e hee).2.2] at hm
    exact hr e (hOnσ e (hon e ho hee)) hm
  refine ⟨hkeep b hf.2.2.1 (fun hm => by obtain ⟨e', ho', _, hm'⟩ := hfp b hm; exact hr e' ho' hm'), ⟨fun k hk => by rw [hn.β]; exact hf.1 k (hbne k hk), fun e x hx hon' hh => hnb e ⟨x, hx, hon'⟩ (List.mem_of_mem_head? hh), Nat.lt_of_lt_of_le hf.2.2.1 hbk.size, by rw [hn.A0]; exact hf.2.2.2⟩, hnb⟩
 have hψ : ∀ e, τ.ev e ≠ none -> ev' e = τ.ev e /\ g'.ψ e = g.ψ e := fun e he => ⟨(hn.old e he).1, (hn.old e he).2.1⟩
 refine ⟨by rw [hR.defers], hR.size, by rw [hn.A0, hn.R0]; exact hR.anew, fun i => ?_, fun b cs hb => ?_, fun b hb => by rw [hn.β]; exact hR.base b (hbne b hb), fun b b' h1 h2 h3 => by rw [hn.β] at h3; exact hR.inj b b' (hbne b h1) (hbne b' h2) h3, fun e x he ho => ?_, fun e x he ho => ?_, hn.slc, fun e he b hb => ?_, fun e he b hb => ?_, fun e he => ?_, fun e e' h1 h2 hne b hb1 hb2 => ?_, fun e k he hk hm => ?_⟩
 ·rcases hK.sl i with h | ⟨h, hok⟩
  ·rw [show (⟨τ.sl, τ.bx, ev'⟩ : St).sl i = .one .any from h]; trivial
  ·rw [hn.R0]
   show VR _ g' w' (τ.sl i) _
   have hs := hR.slots i
   rw [<- h] at hs
   exact okU_vr hn.β hψ hrn hok hs
 ·obtain ⟨hb1, hb2⟩ := hK.bx b cs hb
  obtain ⟨vs, ty, k1, k2⟩ := hR.boxes b cs hb1
  have hne : τ.bx b ≠ none := by rw [show τ.bx b = some cs from hb]; simp
  have hnf := hβfp b hne
  exact ⟨vs, ty, by rw [hn.β, hkeep _ (hR.lt (hbne b hne)) (fun h => hnf (Or.inl h))]; exact k1, zlu hn.β hψ hrn hb2 k2⟩
 ·by_cases hee : τ.ev e = none
  ·obtain ⟨⟨k1, _, k0⟩, k2, k3, k4⟩ := hn.new e x hee he
   rw [k0]
   unfold zax at k2
   obtain ⟨ao, cap, j1, j2, j3, j4⟩ := k2
   refine ⟨ao, cap, j1, j2, j3, ?_⟩
   rcases j4 with j4 | ⟨b, cells, ty, fps, j4, j5, j6, j7, j8⟩
   ·exact Or.inl j4
   ·exact Or.inr ⟨b, cells, ty, fps, j4, j5, j6, j7, by rw [if_pos k1]; exact j8⟩
  ·obtain ⟨o1, o2, o3⟩ := hn.old e hee
   have hx : τ.ev e = some x := o1.symm.trans he
   obtain ⟨k1, k2, k3⟩ := hK.ev e x hx
   have hE := hR.evs e x k1 k2
   have hno := hφfp e ⟨x, hx, k2⟩
   have hl := hlt e ⟨x, k1, k2⟩
   have hkp : ∀ b ∈ g.φ e, w'.heap[b]? = w.heap[b]? := fun b hb => hkeep b (hl b hb) fun h => hno b hb (Or.inl h)
   rw [o2, o3]
   obtain ⟨ao, cap, r1, r2, r3, r4⟩ := hE
   refine ⟨ao, cap, r1, r2, r3, ?_⟩
   rcases r4 with r4 | ⟨b, cells, ty, fps, r4, r5, r6, r7, r8⟩
   ·exact Or.inl r4
   ·rw [if_pos k3] at r8
    exact Or.inr ⟨b, cells, ty, fps, r4, r5, by rw [hkp b (by rw [r5]; simp)]; exact r6, r7, by rw [if_pos k3]; exact zak.keep cells 0 x.sz x.rows fps r8 fun b' hb' => hkp b' (by rw [r5]; simp [hb'])⟩
 ·by_cases hee : τ.ev e = none
  ·rw [(hn.new e x hee he).1.2.1] at ho; cases ho
  ·have hx : τ.ev e = some x := (hn.old e hee).1.symm.trans he
   rw [(hK.ev e x hx).2.1] at ho; cases ho
 ·rw [hn.A0, hn.R0]
  by_cases hee : τ.ev e = none
  ·obtain ⟨x, hx, _⟩ := he
   have := hNB b ((hn.new e x hee hx).2.2.1 b hb).1
   exact ⟨this.1, this.2.1⟩
  ·rw [(hn.old e hee).2.2] at hb
   exact hR.ebase e (hOnσ e (hon e he hee)) b hb
 ·by_cases hee : τ.ev e = none
  ·obtain ⟨x, hx, _⟩ := he
   exact (hNB b ((hn.new e x hee hx).2.2.1 b hb).1).2.2
  ·rw [(hn.old e hee).2.2] at hb
   exact hR.etop e (hOnσ e (hon e he hee)) b hb
 ·by_cases hee : τ.ev e = none
  ·obtain ⟨x, hx, _⟩ := he
   exact (hn.new e x hee hx).2.2.2
  ·rw [(hn.old e hee).2.2]
   exact hR.nodup e (hOnσ e (hon e he hee))
 ·by_cases hee : τ.ev e = none
  ·obtain ⟨x, hx, _⟩ := h1
   by_cases hee' : τ.ev e' = none
   ·obtain ⟨x', hx', _⟩ := h2
    exact hn.apart e e' hee hee' (by rw [show ev' e = some x from hx]; simp) (by rw [show ev' e' = some x' from hx']; simp) hne b hb1 hb2
   ·rw [(hn.old e' hee').2.2] at hb2
    exact hφfp e' (hon e' h2 hee') b hb2 ((hn.new e x hee hx).2.2.1 b hb1).1
  ·rw [(hn.old e hee).2.2] at hb1
   by_cases hee' : τ.ev e' = none
   ·obtain ⟨x', hx', _⟩ := h2
    exact hφfp e (hon e h1 hee) b hb1 ((hn.new e' x' hee' hx').2.2.1 b hb2).1
   ·rw [(hn.old e' hee').2.2] at hb2
    exact hR.apart e e' (hOnσ e (hon e h1 hee)) (hOnσ e' (hon e' h2 hee')) hne b hb1 hb2
 ·rw [hn.β] at hm
  by_cases hee : τ.ev e = none
  ·obtain ⟨x, hx, _⟩ := he
   exact hβfp k hk ((hn.new e x hee hx).2.2.1 _ hm).1
  ·rw [(hn.old e hee).2.2] at hm
   exact hR.ebx e k (hOnσ e (hon e he hee)) (hbne k hk) hm
theorem zy2 {o : Oper} {σ τ : St} {x : Operand} {asx : Array Operand} {ts : Array TypeId} {f : FuncId} {cvs : List V} {d : Nat} {ds : List (Bool × D)} {res : List D} {ps : List (Nat × Nat × Nat)} (ho : o.op = .call ⟨.value x, asx, ts⟩) (hd : o.dst = some d)
  (h : GC P f ds res) (hc : zaw (σ.get P 0 x) = some (f, cvs)) (hK : Kept σ τ) (hv : gvA σ (fun u => ∀ s ∈ u, τ.ev s.1 = none) [] ps (σ.gets P asx ts ++ cvs) ds) (hf : zgl d 0 (za2 res) τ.ev) : zaf P o σ (τ.callF d res) := by
 intro n0 N g a w hR hn hdN
 obtain ⟨vs, h1, h2⟩ := zdo hR ho hc h.1
 unfold Oper.wp
 rw [h1]
 obtain ⟨B, hB⟩ := hR.fam
 obtain ⟨s, k1, k2, k3, k4⟩ := zes hR hB hv h2
 rw [List.append_nil] at k1 k4
 have hsp : s.Pairwise okP := by
  have := (List.pairwise_reverse.1 (k4 List.Pairwise.nil))
  exact this.imp fun h => h.symm
 have hnd := ze3 hR hB k3 hsp
 have hfp : ∀ b ∈ bks B s, ∃ e, σ.On e /\ τ.ev e = none /\ b ∈ g.φ e := fun b hb => by
  obtain ⟨x, hx, hm⟩ := List.mem_flatMap.1 hb
  exact ⟨x.1, k3 x hx, k1 x (List.mem_reverse.2 hx), hB.sub x.1 x.2 b (k3 x hx) hm⟩
 obtain ⟨tp, k2⟩ := k2 (bks B s) fun b hb => by obtain ⟨e, h1, _, h3⟩ := hfp b hb; exact ⟨e, h1, h3⟩
 refine (h.2 w vs (bks B s) tp k2 hnd).mono ?_
 rintro e w' ⟨us, fp', tp', rfl, o1, o2, o3, hbk⟩
 have o1' := zdq.of_g o1
 obtain ⟨g', q1, q2, q3⟩ := New.cells (σ := τ) (g := g) (NB := fun b => b ∈ bks B s \/ w.heap.size <= b) (w' := w') d (za2 res) _ fp' 0 τ.ev g [] (New.refl _ _ _ _ hR.slc) (fun e h1 h2 => absurd h1 h2) hf o1'.cells o2 (fun b hb' => ⟨o3 b hb', by simp⟩)
 have hR' := hR.given hn hK hfp hbk q1
 have hBk : Bk n0 w w' := ⟨hbk.os, hbk.tape, hbk.output, hbk.size, fun k hk => hbk.block k ⟨hn k hk, fun hm => by
  obtain ⟨e, h1, _, h3⟩ := hfp k hm
  exact hR.etop e h1 k h3 hk⟩⟩
 refine ⟨g', ?_, hBk, q1.A0, q1.R0⟩
 have hp := hR'.put (some d) (x := zus (zu4 d 0 res)) (v := zbs us) (zfo (zk7 d 0 o1' (q3 _ _ rfl)) (zhm d res 0)) (fun i hi => by cases hi; exact hdN d hd)
 rw [hd]
 exact hp
def ztc {α : Type} : List (Nat × α) -> Nat -> Prop
 | [], _ => True
 | p :: l, i => (i = p.1) = False /\ ztc l i
def zc5 {α β : Type} (l : List (Nat × β)) : List (Nat × α) -> Prop
 | [] => True
 | p :: la => ztc l p.1 /\ zc5 l la
def okL (τ : St) : List (Nat × V) -> Prop
 | [] => True
 | p :: l => p.2.okU τ /\ okL τ l
def okB (τ : St) : List (Nat × List C) -> Prop
 | [] => True
 | p :: l => qfh τ p.2 /\ okB τ l
def okE : List (Nat × Ev) -> Prop
 | [] => True
 | p :: l => p.2.on = true /\ p.2.deep = true /\ okE l
def zon (el : List (Nat × Ev)) : List Sr -> Prop
 | [] => True
 | s :: u => ztc el s.1 /\ zon el u
theorem zh4 {α : Type} : ∀ {l : List (Nat × α)} {i : Nat}, ztc l i -> tbl l i = none
 | [], _, _ => rfl
 | (j, v) :: l, i, h => by unfold tbl; rw [if_neg (fun e => of_eq_false h.1 e), zh4 h.2]
theorem zif {el : List (Nat × Ev)} : ∀ {u : List Sr}, zon el u -> ∀ s ∈ u, tbl el s.1 = none
 | [], _, s, hs => by simp at hs
 | x :: u, h, s, hs => by
  rcases List.mem_cons.1 hs with rfl | hs
  ·exact zh4 h.1
  ·exact zif h.2 s hs
theorem zjn : ∀ {l : List (Nat × V)} {i : Nat}, ztc l i -> zi8 l i = .one .any
 | [], _, _ => rfl
 | (j, v) :: l, i, h => by unfold zi8; rw [if_neg (fun e => of_eq_false h.1 e), zjn h.2]
theorem zk4 {l : List (Nat × V)} : ∀ {la : List (Nat × V)}, zc5 l la -> ∀ i, zi8 l i = .one .any \/ zi8 l i = zi8 (la ++ l) i
 | [], _, i => Or.inr rfl
 | (j, v) :: la, h, i => by
  by_cases hij : i = j
  ·subst hij; exact Or.inl (zjn h.1)
  ·rw [List.cons_append]
   show _ \/ zi8 l i = if i = j then v else zi8 (la ++ l) i
   rw [if_neg hij]
   exact zk4 h.2 i
theorem zii {α : Type} {l : List (Nat × α)} : ∀ {la : List (Nat × α)}, zc5 l la -> ∀ i x, tbl l i = some x -> tbl (la ++ l) i = some x
 | [], _, i, x, hx => hx
 | (j, v) :: la, h, i, x, hx => by
  by_cases hij : i = j
  ·subst hij; rw [zh4 h.1] at hx; cases hx
  ·rw [List.cons_append]
   show (if i = j then some v else tbl (la ++ l) i) = some x
   rw [if_neg hij]
   exact zii h.2 i x hx
theorem zo1 {τ : St} : ∀ {l : List (Nat × V)}, okL τ l -> ∀ i, (zi8 l i).okU τ
 | [], _, _ => trivial
 | (j, v) :: l, h, i => by
  unfold zi8
  split
  ·exact h.1
  ·exact zo1 h.2 i
theorem zqj {τ : St} : ∀ {l : List (Nat × List C)}, okB τ l -> ∀ b cs, tbl l b = some cs -> qfh τ cs
 | [], _, _, _, h => by cases h
 | (j, v) :: l, h, b, cs, hb => by
  unfold tbl at hb
  split at hb
  ·cases hb; exact h.1
  ·exact zqj h.2 b cs hb
theorem zpm : ∀ {l : List (Nat × Ev)}, okE l -> ∀ e x, tbl l e = some x -> x.on = true /\ x.deep = true
 | [], _, _, _, h => by cases h
 | (j, v) :: l, h, e, x, hb => by
  unfold tbl at hb
  split at hb
  ·cases hb; exact ⟨h.1, h.2.1⟩
  ·exact zpm h.2.2 e x hb
section
variable {ks : List Fr} {Q : Exit -> St -> Prop} {σ : St} {ops : Array Oper} {os : List Oper} {ty : TypeId} {ps : String} {af : Array Edge} {d : Nat} {x : Operand} {asx : Array Operand} {ts : Array TypeId} {f : FuncId} {ds : List (Bool × D)} {res : List D}
theorem callG (la l : List (Nat × V)) (ba bl : List (Nat × List C)) (ea el : List (Nat × Ev)) (pl : List (Nat × Nat × Nat)) (h : GC P f ds res)
  (hw : wkL σ (hd (la ++ l) (ba ++ bl) (ea ++ el)) (la ++ l) /\ wkB σ (hd (la ++ l) (ba ++ bl) (ea ++ el)) (ba ++ bl) /\ wkE σ (ea ++ el))
  (hk : zc5 l la /\ zc5 bl ba /\ zc5 el ea /\ okL (hd l bl el) l /\ okB (hd l bl el) bl /\ okE el)
  (hp : zaq (zaw ((hd (la ++ l) (ba ++ bl) (ea ++ el)).get P 0 x)) fun p => p.1 = f /\ gvA (hd (la ++ l) (ba ++ bl) (ea ++ el)) (zon el) [] pl ((hd (la ++ l) (ba ++ bl) (ea ++ el)).gets P asx ts ++ p.2) ds) (hf : zgl d 0 (za2 res) (hd l bl el).ev)
  (k : exo P ops os ks Q ((hd l bl el).callF d res)) : exo P ops (⟨some d, .call ⟨.value x, asx, ts⟩, ty, ps, af, none⟩ :: os) ks Q σ := by
 obtain ⟨⟨f', cvs⟩, h1, rfl, h2⟩ := zap hp
 obtain ⟨k1, k2, k3, k4, k5, k6⟩ := hk
 refine zct rfl rfl (zaf.pre (zac hw) (zy2 (P := P) (o := ⟨some d, .call ⟨.value x, asx, ts⟩, ty, ps, af, none⟩) rfl rfl h h1 (τ := hd l bl el) ⟨fun i => ?_, fun b cs hb => ⟨zii k2 b cs hb, zqj k5 b cs hb⟩, fun e x he => ⟨zii k3 e x he, zpm k6 e x he⟩⟩ (zf2 (fun u hu => zif hu) h2) hf)) k
 rcases zk4 k1 i with h | h
 ·exact Or.inl h
 ·exact Or.inr ⟨h, zo1 k4 i⟩
end
attribute [go_sem] gvT owU zfn znl ztc zc5 okL okB okE zon C.okU qfh okUt V.okU gvA gvK okS okQ rdV rdC rdCs
end Go.Proofs.YtemnhgmgeijkcaaGreat
namespace Go.Proofs.YtemnhgmgeijkcaaGreat
set_option linter.unusedSimpArgs false
set_option linter.unusedVariables false
set_option linter.unusedSectionVars false
set_option maxRecDepth 4000
open Go.RowKit
variable {P : Program}
def qhr : Option (Nat × List (List C)) -> List (List C)
 | some p => p.2
 | none => []
def blK (d : Nat) : Option (Ev × List (Nat × Ev)) -> List (Nat × Ev)
 | some (x, cons) => (d * 32, x) :: zvj cons
 | none => []
def apKs : Option (Prop × Nat × Ev × List (Nat × Ev)) -> List Ky
 | some (_, e, _, cons) => (2, e) :: cons.map (fun p => (2, p.1))
 | none => []
section
variable {ks : List Fr} {Q : Exit -> St -> Prop} {σ : St} {ops : Array Oper} {os : List Oper} {L : List (List Ky × List Ky)} {d : Nat} {t : TypeId} {ty : TypeId} {ps : String} {af : Array Edge} {len : Nat} {parts : Array (Nat × Operand)} {s y : Operand}
theorem zbl (h : zaq (blD P σ t len parts) fun r => σ.ev (d * 32) = none /\ (r.2.map (·.1)).Nodup)
  (k : exd P ops os (L ++ [(zau (parts.toList.map (·.2)) ++ (rK (qhr (zl4 P (σ.get P) t len parts)) ++ [(2, d * 32)]), dK (some d) ++ eK (blK d (blD P σ t len parts)))]) ks Q ((σ.bl d (blD P σ t len parts)).put (some d) (.one (.ow (d * 32) 0)))) :
  exd P ops (⟨some d, .buildSlice t len parts, ty, ps, af, none⟩ :: os) L ks Q σ := by
 obtain ⟨⟨x, cons⟩, h1, h2, h3⟩ := zap h
 rw [h1] at k
 unfold blD at h1
 obtain ⟨p, e1, h1⟩ := Option.bind_eq_some_iff.1 h1
 obtain ⟨q, e2, h1⟩ := Option.map_eq_some_iff.1 h1
 simp only [Prod.mk.injEq] at h1
 obtain ⟨rfl, rfl⟩ := h1
 rw [e1] at k
 exact qis ⟨e1, e2, h2, h3⟩ k
theorem zh3 (dp2 : Bool) (h : zaq (apV P σ d t s y dp2) fun r => r.1) (k : exd P ops os (L ++ [(zau [s, y] ++ apKs (apV P σ d t s y dp2), dK (some d) ++ apKs (apV P σ d t s y dp2))]) ks Q (σ.apV d (apV P σ d t s y dp2))) :
  exd P ops (⟨some d, .call ⟨.builtin .append, #[s, y], #[t, t]⟩, ty, ps, af, none⟩ :: os) L ks Q σ := by
 obtain ⟨⟨p, e, x, cons⟩, h1, h2⟩ := zap h
 rw [h1] at k
 unfold Go.Proofs.YtemnhgmgeijkcaaGreat.apV at h1
 split at h1
 ·rename_i e0 gn e2 gn2 hs hy
  obtain ⟨x0, k1, h3⟩ := Option.bind_eq_some_iff.1 h1
  obtain ⟨z, k2, h4⟩ := Option.bind_eq_some_iff.1 h3
  clear h1 h3
  by_cases hc : x0.gen = gn /\ x0.on = true /\ z.gen = gn2 /\ z.on = true /\ z.sz = x0.sz /\ e2 ≠ e0
  ·rw [if_pos hc] at h4
   obtain ⟨rfl, c2, rfl, c4, c5, c6⟩ := hc
   simp only [Option.some.injEq, Prod.mk.injEq] at h4
   obtain ⟨rfl, rfl, rfl, rfl⟩ := h4
   obtain ⟨dp, sz, rows, gn, on⟩ := x0
   obtain ⟨dp2, sz2, rows2, gn2, on2⟩ := z
   simp only at c2 c4 c5
   subst c2 c4 c5
   exact dApOO ⟨hs, qdo hy, k1, k2, c6, rfl⟩ h2.1 h2.2 k
  ·rw [if_neg hc] at h4; cases h4
 ·rename_i e0 gn sz rows2 hs hy
  obtain ⟨x0, k1, h4⟩ := Option.bind_eq_some_iff.1 h1
  clear h1
  by_cases hc : x0.gen = gn /\ x0.on = true /\ sz = x0.sz
  ·rw [if_pos hc] at h4
   obtain ⟨rfl, c2, rfl⟩ := hc
   simp only [Option.some.injEq, Prod.mk.injEq] at h4
   obtain ⟨rfl, rfl, rfl, rfl⟩ := h4
   obtain ⟨dp, sz, rows, gn, on⟩ := x0
   simp only at c2
   subst c2
   exact dApOT dp2 ⟨hs, hy, k1⟩ (fun hd => zh6 (h2.2.2 hd)) h2.1 h2.2.1 k
  ·rw [if_neg hc] at h4; cases h4
 ·rename_i z0 e2 gn2 hs hy
  obtain ⟨z, k2, h4⟩ := Option.bind_eq_some_iff.1 h1
  clear h1
  by_cases hc : z.gen = gn2 /\ z.on = true /\ e2 ≠ d * 32
  ·rw [if_pos hc] at h4
   obtain ⟨rfl, c2, c3⟩ := hc
   simp only [Option.some.injEq, Prod.mk.injEq] at h4
   obtain ⟨rfl, rfl, rfl, rfl⟩ := h4
   obtain ⟨dp2, sz2, rows2, gn2, on2⟩ := z
   simp only at c2
   subst c2
   exact dApNO ⟨hs, qdo hy, h2.2.2, k2, c3⟩ h2.1 h2.2.1 k
  ·rw [if_neg hc] at h4; cases h4
 ·rename_i z0 sz rows2 hs hy
  simp only [Option.some.injEq, Prod.mk.injEq] at h1
  obtain ⟨rfl, rfl, rfl, rfl⟩ := h1
  exact dApNT dp2 ⟨hs, hy, h2.2.2.2⟩ (fun hd => zh6 (h2.2.2.1 hd)) h2.1 h2.2.1 k
 ·cases h1
end
attribute [go_sem] qhr blK apKs
end Go.Proofs.YtemnhgmgeijkcaaGreat
namespace Go.Proofs.YtemnhgmgeijkcaaGreat
set_option linter.unusedSimpArgs false
set_option linter.unusedVariables false
set_option linter.unusedSectionVars false
set_option maxRecDepth 4000
open Go.RowKit
variable {P : Program}
def PX (P : Program) (rs : List ResultVar) (res : List D) (σ : St) : Prop := ∃ pl, zaq (zbr P σ rs) fun vs => gvA σ (fun _ => True) [] pl vs (res.map fun d => (true, d))
def PS (P : Program) (rs : List ResultVar) (res : List D) (e : Exit) (σ : St) : Prop := match e with
 | .normal => PF P rs res .normal σ \/ PX P rs res σ
 | .ret => PF P rs res .ret σ \/ PX P rs res σ
 | _ => False
theorem zg0 {w : World} {A : Nat -> Prop} : ∀ {res : List D} {vs : List Value} {fp tp : List Nat}, za0 w A (res.map fun d => (true, d)) vs fp tp -> GDs w res vs fp tp
 | [], _, _, _, h => h
 | d :: ds, _, _, _, h => by
  obtain ⟨v, vs', f1, f2, t1, t2, rfl, rfl, rfl, h1, h2⟩ := h
  exact ⟨v, vs', f1, f2, t1, t2, rfl, rfl, rfl, h1, zg0 h2⟩
theorem zw9 {n0 : Nat -> Prop} {N : Nat} {σ : St} {g : Gh} {a : Act} {w : World} (hR : Rel n0 N σ g a w) {vs : List V} {res : List D} {pl : List (Nat × Nat × Nat)} (h : gvA σ (fun _ => True) [] pl vs (res.map fun d => (true, d))) {us : List Value} (hv : VRl σ g w vs us) :
  ∃ fp tp, GDs w res us fp tp /\ fp.Nodup /\ ∀ b ∈ fp, ∃ e, σ.On e /\ b ∈ g.φ e := by
 obtain ⟨B, hB⟩ := hR.fam
 obtain ⟨s, k1, k2, k3, k4⟩ := zes hR hB h hv
 rw [List.append_nil] at k4
 have hsp : s.Pairwise okP := (List.pairwise_reverse.1 (k4 List.Pairwise.nil)).imp fun h => h.symm
 obtain ⟨tp, k2⟩ := k2 [] (by simp)
 refine ⟨_, tp, zg0 k2, ze3 hR hB k3 hsp, fun b hb => ?_⟩
 obtain ⟨x, hx, hm⟩ := List.mem_flatMap.1 hb
 exact ⟨x.1, k3 x hx, hB.sub x.1 x.2 b (k3 x hx) hm⟩
theorem qe4 {f : FuncId} {fn : Func} {c : Code} {args : List (Bool × D)} {res : List D} (hc : za3 P f) (hf : P.funcs[f]? = some fn) (hb : fn.body = some c) (hd : zbb fn.ntmps c = true) (hN : args.length <= fn.ntmps) (hs : zb6 args)
  (h : ∀ (w : World) (vs : List Value) (fp tp : List Nat), za0 w (fun b => b < w.heap.size /\ b ∉ fp) args vs fp tp -> ∀ (g : Gh) (a : Act), Rel (fun b => b < w.heap.size /\ b ∉ fp) fn.ntmps (zds args) g a w -> (a.tmps = (⟨vs⟩ : Array Value) ++ Array.replicate (fn.ntmps - vs.length) undef /\ (g.A0, g.R0) = ((fun _ => True), RP.of fun b => b ∈ fp \/ w.heap.size <= b)) →
   ∃ σ0, ex P c [] (PS P fn.results.toList res) σ0 /\ Rel (fun b => b < w.heap.size /\ b ∉ fp) fn.ntmps σ0 g a w) : GC P f args res := by
 refine ⟨hc, fun w vs fp tp hv hn => ?_⟩
 refine calls_of_wp hf hb ?_
 have hv' : za0 w (fun b => b < w.heap.size /\ True /\ b ∉ fp) args vs fp tp := za0.keepA (fun b hb => ⟨hb.1, trivial, hb.2⟩) hv
 obtain ⟨g, hg, hR⟩ := Rel.start (A0 := fun _ => True) (R0 := RP.of fun b => b ∈ fp \/ w.heap.size <= b) (N := fn.ntmps) hv' hn hs hN (fun _ _ => trivial) (fun b hb => ⟨trivial, Or.inl hb⟩) (fun b hb => ⟨trivial, by
  by_cases hlt : b < w.heap.size
  ·exact Or.inl (Classical.byContradiction fun h => hb ⟨hlt, h⟩)
  ·exact Or.inr (by omega)⟩)
 obtain ⟨σ0, hex, hR0⟩ := h w vs fp tp hv g _ hR ⟨rfl, hg⟩
 refine wp_mono (za8 (w0 := w) c σ0 _ hd hex g _ w hR0 (fun k hk => hk.1) (Bk.refl _ _) hg) fun e a' w' hq => ?_
 obtain ⟨σ', g', h1, h2, h3, h4, h5⟩ := hq
 have fin : ∀ {us : List Value} {v : Value}, (results fn a'.tmps).run P w' = .ok v w' -> v = zbs us -> (∃ fp' tp', GDs w' res us fp' tp' /\ fp'.Nodup /\ ∀ b ∈ fp', ∃ e, σ'.On e /\ b ∈ g'.φ e) -> ∃ v, (results fn a'.tmps).run P w' = .ok v w' /\ ∃ us fp' tp', Ending.returned v = .returned (zbs us) /\ GDs w' res us fp' tp' /\ fp'.Nodup /\ (∀ b ∈ fp', b ∈ fp \/ w.heap.size <= b) /\ Bk (fun k => k < w.heap.size /\ k ∉ fp) w w' := fun {us v} r1 rv ⟨fp', tp', o1, o2, o3⟩ => by
  refine ⟨_, r1, us, fp', tp', by rw [rv], o1, o2, fun b hb => ?_, h4⟩
  obtain ⟨e, l, m⟩ := o3 b hb
  have := (h2.ebase e l b m).2
  rw [(Prod.mk.inj h5).2] at this
  exact this
 have key : (zaq (zbr P σ' fn.results.toList) (fun vs => qak σ' [] vs res) \/ PX P fn.results.toList res σ') -> ∃ v, (results fn a'.tmps).run P w' = .ok v w' /\ ∃ us fp' tp', Ending.returned v = .returned (zbs us) /\ GDs w' res us fp' tp' /\ fp'.Nodup /\ (∀ b ∈ fp', b ∈ fp \/ w.heap.size <= b) /\ Bk (fun k => k < w.heap.size /\ k ∉ fp) w w' := fun hk => by
  rcases hk with hk | ⟨pl, hk⟩
  ·obtain ⟨vs, hvs, hk⟩ := zap hk
   obtain ⟨us, r1, r2⟩ := zbj h2 fn hvs
   obtain ⟨used, fp', tp', o1, o2⟩ := zda h2 hk r2
   exact fin r1 rfl ⟨fp', tp', o1, o2.1, fun b hb => by obtain ⟨e, _, _, l, m⟩ := o2.2.1 b hb; exact ⟨e, l, m⟩⟩
  ·obtain ⟨vs, hvs, hk⟩ := zap hk
   obtain ⟨us, r1, r2⟩ := zbj h2 fn hvs
   exact fin r1 rfl (zw9 h2 hk r2)
 cases e with
 | normal => exact ⟨h2.defers, key h1⟩
 | ret => exact ⟨h2.defers, key h1⟩
 | exit _ => exact h1.elim
 | goto _ => exact h1.elim
 | panic _ => exact h1.elim
 | outgrown => exact h1.elim
theorem qdx (p : Prop) : (p \/ True) = True := by simp
theorem qbr (p : Prop) : (True \/ p) = True := by simp
theorem zzm {α : Type} (x : α) (xs : List α) (d : α) : (x :: xs).getD 0 d = x := rfl
theorem qea {α : Type} (x y : α) (xs : List α) (d : α) : (x :: y :: xs).getD 1 d = y := rfl
attribute [go_sem] zzm qea
attribute [go_sem] Bool.false_and Bool.and_false Bool.and_self
attribute [go_sem] PS qdx qbr
attribute [go_sem] List.length_append
attribute [go_sem] List.set_cons_succ List.set_cons_zero
end Go.Proofs.YtemnhgmgeijkcaaGreat
namespace Go.Proofs.YtemnhgmgeijkcaaGreat
set_option linter.unusedSimpArgs false
set_option linter.unusedVariables false
set_option linter.unusedSectionVars false
set_option maxRecDepth 4000
open Go.RowKit
variable {P : Program}
def D.toN : D -> V
 | .one t => .one t.toN
 | .agg ts => .agg (ts.map T.toN)
def zg8 : Nat -> List D -> Nat -> V
 | _, [] => fun _ => .one .any
 | k, d :: ds => upd (zg8 (k + 1) ds) k d.toN
def zfx (args : List D) : St := ⟨zg8 0 args, fun _ => none, fun _ => none⟩
theorem zn4 : ∀ (ds : List D) (k i : Nat), zg8 k ds (k + i) = match ds[i]? with | some d => d.toN | none => .one .any
 | [], k, i => by simp [zg8]
 | d :: ds, k, 0 => by simp [zg8, upd]
 | d :: ds, k, i + 1 => by
  unfold zg8
  rw [zan _ _ (by omega), show k + (i + 1) = k + 1 + i by omega, zn4 ds (k + 1) i]
  simp
theorem qad {σ : St} {g : Gh} {w : World} {A : Nat -> Prop} (hA : ∀ b, A b -> zcg σ g w b) {x : T} {v : Value} (h : zal w A x v) : CR σ g w x.toN v := by
 cases x <;> first | exact zal.keep (fun _ _ => rfl) (fun b hb => (hA b hb).1) _ v h | exact zal.keep (fun _ _ => rfl) hA _ v h
theorem zph {σ : St} {g : Gh} {w : World} {A : Nat -> Prop} (hA : ∀ b, A b -> zcg σ g w b) : ∀ {ts : List T} {vs : List Value}, zad w A ts vs -> CRs σ g w (ts.map T.toN) vs
 | [], vs, h => by unfold zad at h; exact h
 | t :: ts, vs, h => by
  unfold zad at h
  obtain ⟨v, vs', rfl, h1, h2⟩ := h
  exact ⟨v, vs', rfl, qad hA h1, zph hA h2⟩
theorem zqq {σ : St} {g : Gh} {w : World} {A : Nat -> Prop} (hA : ∀ b, A b -> zcg σ g w b) {d : D} {v : Value} (h : zt6 w A d v) : VR σ g w d.toN v := by
 cases d with
 | one t => exact qad hA h
 | agg ts => obtain ⟨a, h0, h1⟩ := h; exact ⟨a, h0, zph hA h1⟩
theorem zba.at {w : World} {A : Nat -> Prop} : ∀ {ds : List D} {vs : List Value}, zba w A ds vs -> ∀ (i : Nat) d, ds[i]? = some d -> ∃ v, vs[i]? = some v /\ zt6 w A d v
 | [], _, _, i, d, h => by simp at h
 | d0 :: ds, vs, h, 0, d, hi => by
  obtain ⟨v, vs', rfl, h1, h2⟩ := h
  simp only [List.getElem?_cons_zero, Option.some.injEq] at hi
  subst hi; exact ⟨v, rfl, h1⟩
 | d0 :: ds, vs, h, i + 1, d, hi => by
  obtain ⟨v, vs', rfl, h1, h2⟩ := h
  simpa using zba.at h2 i d (by simpa using hi)
theorem zcc {w : World} {A : Nat -> Prop} : ∀ {ds : List D} {vs : List Value} {fp tp : List Nat}, za0 w A (rd ds) vs fp tp -> zba w A ds vs /\ fp = [] /\ tp = []
 | [], _, _, _, h => ⟨h.1, h.2.1, h.2.2⟩
 | d :: ds, _, _, _, h => by
  obtain ⟨v, vs', rfl, h1, h2⟩ := h
  obtain ⟨k1, k2, k3⟩ := zcc h2
  exact ⟨⟨v, vs', rfl, h1, k1⟩, k2, k3⟩
theorem zhr {args : List D} {w : World} {vs : List Value} {N : Nat} {g : Gh} {a : Act} (hr : zba w (fun b => b < w.heap.size /\ b ∉ ([] : List Nat)) args vs) (hR : Rel (fun b => b < w.heap.size /\ b ∉ ([] : List Nat)) N (zds (rd args)) g a w)
  (hg : a.tmps = (⟨vs⟩ : Array Value) ++ Array.replicate (N - vs.length) undef /\ (g.A0, g.R0) = ((fun _ => True), RP.of fun b => b ∈ ([] : List Nat) \/ w.heap.size <= b)) : Rel (fun b => b < w.heap.size /\ b ∉ ([] : List Nat)) N (zfx args) g a w := by
 have hbx : ∀ (ds : List D) (k : Nat), zgs k (rd ds) = fun _ => none := fun ds => by
  induction ds with
  | nil => intro k; rfl
  | cons d ds ih => intro k; exact ih (k + 1)
 have hG : ∀ b, (b < w.heap.size /\ b ∉ ([] : List Nat)) -> zcg (zfx args) g w b := fun b hb => by
  refine ⟨⟨fun k hk => absurd rfl hk, fun e x he _ => (by cases he), hb.1, by rw [(Prod.mk.inj hg.2).1]; trivial⟩, ?_⟩
  rintro e ⟨x, hx, _⟩
  cases hx
 refine hR.slots_of (σ' := zfx args) rfl ?_ hR.defers hR.size fun i => ?_
 ·show (fun _ => none) = zgs 0 (rd args)
  rw [hbx]
 ·have hm : Mv (zfx args) (zfx args) g g w w := Mv.of_eq g w rfl rfl
  show VR (zds (rd args)) g w (zg8 0 args i) _
  have hi := zn4 args 0 i
  rw [Nat.zero_add] at hi
  rw [hi]
  cases hd : args[i]? with
  | none => trivial
  | some d =>
   obtain ⟨v, hv1, hv2⟩ := zba.at hr i d hd
   have hlt : i < vs.length := (List.getElem?_eq_some_iff.1 hv1).1
   have e : a.tmps.getD i (g.R0.ξ i) = v := by
    rw [hg.1]
    rw [Array.getD_eq_getD_getElem?, Array.getElem?_append_left (by simpa using hlt)]
    simp [hv1]
   rw [e]
   have hx := zqq hG hv2
   exact (Mv.of_eq (σ := zfx args) (σ' := zds (rd args)) g w rfl (by show zgs 0 (rd args) = fun _ => none; rw [hbx])).vr hx
theorem zcp {f : FuncId} {fn : Func} {c : Code} {args res : List D} (hc : za3 P f) (hf : P.funcs[f]? = some fn) (hb : fn.body = some c) (hd : zbb fn.ntmps c = true) (hN : (rd args).length <= fn.ntmps)
  (h : ex P c [] (PS P fn.results.toList res) (zfx args)) : FC P f args res := by
 refine qe4 hc hf hb hd hN (zcx args) fun w vs fp tp hv g a hR hg => ?_
 obtain ⟨hr, rfl, rfl⟩ := zcc hv
 exact ⟨zfx args, h, zhr hr hR hg⟩
attribute [go_sem] zfx zg8 D.toN T.toN
end Go.Proofs.YtemnhgmgeijkcaaGreat
namespace Go.Proofs.YtemnhgmgeijkcaaGreat
set_option linter.unusedSimpArgs false
set_option linter.unusedVariables false
set_option linter.unusedSectionVars false
set_option maxRecDepth 4000
open Go.RowKit
variable {P : Program}
abbrev FR (r : Option Nat) : Fence := { Fence.wide with round := r }
theorem ze9 {r : Option Nat} {n : Nat} {f : FuncId} {args : Array Value} {w : World} {R : Ending -> World -> Prop} : CallsIn (FR r) n P f args w R ↔ Calls P f args w R :=
 (callsIn_wide (n := n) : CallsIn Fence.wide n P f args w R ↔ _)
def Oper.nodef (o : Oper) : Bool := match o.op with | .defer _ => false | _ => true
theorem qeb {o : Oper} (h : Oper.nodef o = true) : ∀ c, o.op ≠ .defer c := fun c hc => by simp [Oper.nodef, hc] at h
theorem zdb (a : Act) (d : Option Nat) (v : Value) (ds : List Deferred) : ({ a with defers := ds } : Act).put d v = { a.put d v with defers := ds } := by cases d <;> rfl
theorem zoo (a : Act) (d : Option Nat) (v : Value) : (a.put d v).defers = a.defers := by cases d <;> rfl
theorem operIn {r : Option Nat} {n : Nat} {o : Oper} {a : Act} {w : World} {K : Act -> World -> Prop} {ds : List Deferred} {K' : Act -> World -> Prop} {Q : Exit -> Act -> World -> Prop} (hnd : Oper.nodef o = true) (hK : ∀ a w, K a w -> a.defers = []) (h : o.wp P a w K (fun _ _ _ => False))
  (hK' : ∀ v w', K (a.put o.dst v) w' -> K' { a.put o.dst v with defers := ds } w') : o.wpIn (FR r) n P { a with defers := ds } w K' Q := by
 unfold Oper.wp at h
 refine ⟨fun _ _ => trivial, ?_⟩
 rw [Oper.semAt_eq _ _ _ (qeb hnd)]
 show o.uponIn (FR r) n P { a with defers := ds } K' Q ((execOp a.eval o).run P w)
 generalize (execOp a.eval o).run P w = x at h
 cases x with
 | ok nx w' =>
  cases nx with
  | value v => show K' _ _; rw [zdb]; exact hK' v w' h
  | skip => show K' _ _; rw [zdb]; exact hK' _ w' h
  | defer d => exact absurd (hK _ _ h) (by rw [zoo]; simp)
  | enter f args =>
   refine ⟨(by intro h; cases h), ze9.2 (Calls.mono h fun e w'' he => ?_)⟩
   cases e with
   | returned v => show K' _ _; rw [zdb]; exact hK' v w'' he
   | panicked c => exact he.elim
   | outgrown => obtain ⟨_, _, hx⟩ := he; exact hx.elim
  | row row args =>
   refine ⟨(by intro h; cases h), fun c cs _ => ?_⟩
   obtain ⟨v, w'', h1, h2⟩ := h c cs
   refine ⟨v, w'', ?_, stepsIn_wide.2 h2⟩
   show K' _ _; rw [zdb]; exact hK' v w'' h1
  | _ => exact (show False from h).elim
 | halt x w' => cases x <;> exact (show False from h).elim
def Ag (D : Nat -> Prop) (a a' : Act) : Prop := ∀ i, ¬ D i -> a'.tmps.getD i undef = a.tmps.getD i undef
theorem Ag.refl (D : Nat -> Prop) (a : Act) : Ag D a a := fun _ _ => rfl
theorem Ag.put {D : Nat -> Prop} {a0 a : Act} (h : Ag D a0 a) {d : Option Nat} (hd : ∀ i, d = some i -> D i) (v : Value) : Ag D a0 (a.put d v) := fun i hi => by
 cases d with
 | none => exact h i hi
 | some j =>
  have hij : i ≠ j := fun e => hi (e ▸ hd j rfl)
  rw [show (a.put (some j) v).tmps = a.tmps.setIfInBounds j v from rfl, zgw a hij]
  exact h i hi
def EndsD (n0 : Nat -> Prop) (N : Nat) (w0 : World) (A0 : (Nat -> Prop) × RP) (ds : List Deferred) (D : Nat -> Prop) (a0 : Act) (Q : Exit -> St -> Prop) (e : Exit) (a : Act) (w : World) : Prop := ∃ a1, a = { a1 with defers := ds } /\ Ag D a0 a1 /\ qav n0 N w0 A0 Q e a1 w
theorem zjd {ops : Array Oper} {K : St -> Prop} {n0 : Nat -> Prop} {N : Nat} {w0 : World} {A0 : (Nat -> Prop) × RP} {r : Option Nat} {n : Nat} {ds : List Deferred} {D : Nat -> Prop} {a0 : Act} {R : Exit -> Act -> World -> Prop}
  (hR : ∀ a w σ g, K σ -> Rel n0 N σ g a w -> LtK n0 w -> Bk n0 w0 w -> (g.A0, g.R0) = A0 -> Ag D a0 a -> R .normal { a with defers := ds } w) :
  ∀ (k i : Nat), i + k = ops.size -> (∀ o ∈ ops.toList, Oper.nodef o = true /\ ∀ d, o.dst = some d -> d < N /\ D d) -> ∀ (σ : St) (g : Gh) (a : Act) (w : World), zbc P ops (ops.toList.drop i) σ K -> Rel n0 N σ g a w -> LtK n0 w -> Bk n0 w0 w -> (g.A0, g.R0) = A0 -> Ag D a0 a -> wpOpsIn (FR r) n P ops R (List.range' i k) { a with defers := ds } w
 | 0, i, hi, hd, σ, g, a, w, h, hr, hn, hb, hA, hg => by
  have : ops.toList.drop i = [] := List.drop_of_length_le (by simp; omega)
  rw [this] at h
  exact hR a w σ g h hr hn hb hA hg
 | k + 1, i, hi, hd, σ, g, a, w, h, hr, hn, hb, hA, hg => by
  have hlt : i < ops.size := by omega
  have hcons : ops.toList.drop i = ops[i] :: ops.toList.drop (i + 1) := by
   rw [List.drop_eq_getElem_cons (by simpa using hlt)]; rfl
  rw [hcons] at h
  rw [show List.range' i (k + 1) = i :: List.range' (i + 1) k from rfl]
  have ho : ops[i]? = some ops[i] := by simp [hlt]
  obtain ⟨hnd, hdi⟩ := hd ops[i] (by simp)
  have next : ∀ σ' a' w', (∃ g', Rel n0 N σ' g' a' w' /\ Bk n0 w w' /\ g'.A0 = g.A0 /\ g'.R0 = g.R0) -> Ag D a0 a' -> zbc P ops (ops.toList.drop (i + 1)) σ' K -> wpOpsIn (FR r) n P ops R (List.range' (i + 1) k) { a' with defers := ds } w' := by
   rintro σ' a' w' ⟨g', k1, k2, k3, k4⟩ hg' hK
   exact zjd hR k (i + 1) (by omega) hd σ' g' a' w' hK k1 (hn.mono k2.size) (hb.trans k2) (by rw [k3, k4]; exact hA) hg'
  have run : ∀ σ0, σ0 = σ -> zb2 P ops[i] σ0 (fun σ' => zbc P ops (ops.toList.drop (i + 1)) σ' K) -> ops[i].wpIn (FR r) n P { a with defers := ds } w (wpOpsIn (FR r) n P ops R (List.range' (i + 1) k)) R := fun σ0 e0 h1 => by
   subst e0
   exact operIn hnd (fun a' w' ⟨σ', g', h0, hh⟩ => hh.1.defers) (zd6 h1 n0 N g a w hr hn fun d hd => (hdi d hd).1) fun v w' ⟨σ', g', h0, hh⟩ => next σ' _ w' ⟨g', hh⟩ (hg.put (fun d hd => (hdi d hd).2) v) h0
  simp only [wpOpsIn, ho]
  unfold zbc exG at h
  split at h
  ·rename_i hg0
   have : Region.wanted ops[i] (yielded ops a.tmps) = true := by simp [Region.wanted, hg0]
   rw [if_pos this]
   exact run σ rfl h
  ·rename_i j want hg0
   split at h
   ·rename_i d hdj
    split at h
    ·rename_i c hc
     have hv := hr.slots d
     rw [hc] at hv
     simp only [VR, CR, zal] at hv
     have hy : yielded ops a.tmps j = some c := by
      unfold yielded
      rw [hdj]
      simp only [Option.bind_some]
      cases ht : a.tmps[d]? with
      | none => rw [Array.getD_eq_getD_getElem?, ht] at hv; exact absurd hv (g.R0.nb _ _)
      | some u => rw [Array.getD_eq_getD_getElem?, ht] at hv; simp only [Option.getD_some] at hv; subst hv; rfl
     have hw : Region.wanted ops[i] (yielded ops a.tmps) = (c == want) := by
      unfold Region.wanted
      rw [hg0]
      simp only [hy]
      cases c <;> cases want <;> rfl
     rw [hw]
     by_cases hcw : c = want
     ·subst hcw
      simp only [beq_self_eq_true, if_true]
      exact run _ (ze8 hc) (h.1 rfl)
     ·have hne : (c == want) = false := by simpa using hcw
      rw [hne]
      simp only [Bool.false_eq_true, if_false]
      have hnot : c = !want := by cases c <;> cases want <;> simp_all
      have hh := h.2 hnot
      rw [<- hnot, ze8 hc] at hh
      refine ⟨fun _ _ => trivial, ?_⟩
      rw [zdb]
      exact next _ _ _ ⟨g, hr.put _ (x := .tup []) ⟨[], rfl, rfl⟩ fun d hd => (hdi d hd).1, Bk.refl _ _, rfl, rfl⟩ (hg.put (fun d hd => (hdi d hd).2) _) hh
    ·rename_i xs hc
     have hv := hr.slots d
     rw [hc] at hv
     obtain ⟨vs, hv, _⟩ := hv
     have hy : yielded ops a.tmps j = none := by
      unfold yielded
      rw [hdj]
      simp only [Option.bind_some]
      cases ht : a.tmps[d]? with
      | none => rfl
      | some u => rw [Array.getD_eq_getD_getElem?, ht] at hv; simp only [Option.getD_some] at hv; subst hv; rfl
     have hw : Region.wanted ops[i] (yielded ops a.tmps) = false := by
      unfold Region.wanted
      rw [hg0]
      simp only [hy]
      rfl
     rw [hw]
     simp only [Bool.false_eq_true, if_false]
     refine ⟨fun _ _ => trivial, ?_⟩
     rw [zdb]
     exact next _ _ _ ⟨g, hr.put _ (x := .tup []) ⟨[], rfl, rfl⟩ fun d hd => (hdi d hd).1, Bk.refl _ _, rfl, rfl⟩ (hg.put (fun d hd => (hdi d hd).2) _) h
    ·exact h.elim
   ·exact h.elim
def zby : Code -> Bool
 | .region _ ops false => ops.all Oper.nodef
 | .seq a b => zby a && zby b
 | .cond _ a b => zby a && zby b
 | .block _ b => zby b
 | .skip => true
 | .ret => true
 | .exit _ => true
 | _ => false
def zdj : Code -> List Nat
 | .region _ ops _ => ops.toList.filterMap (·.dst)
 | .seq a b => zdj a ++ zdj b
 | .cond _ a b => zdj a ++ zdj b
 | .block _ b => zdj b
 | .loop b => zdj b
 | _ => []
theorem zb5 {n0 : Nat -> Prop} {N : Nat} {w0 : World} {A0 : (Nat -> Prop) × RP} {r : Option Nat} {n : Nat} {ds : List Deferred} {D : Nat -> Prop} {a0 : Act} : ∀ (c : Code) (σ : St) (Q : Exit -> St -> Prop), zby c = true -> zbb N c = true -> (∀ d ∈ zdj c, D d) -> zff P c σ Q →
  ∀ (g : Gh) (a : Act) (w : World), Rel n0 N σ g a w -> LtK n0 w -> Bk n0 w0 w -> (g.A0, g.R0) = A0 -> Ag D a0 a -> c.wpIn (FR r) n P (EndsD n0 N w0 A0 ds D a0 Q) { a with defers := ds } w
 | .skip, σ, Q, _, _, _, h, g, a, w, hr, hn, hb, hA, hg => wpIn_skip ⟨a, rfl, hg, σ, g, h, hr, hn, hb, hA⟩
 | .ret, σ, Q, _, _, _, h, g, a, w, hr, hn, hb, hA, hg => wpIn_ret ⟨a, rfl, hg, σ, g, h, hr, hn, hb, hA⟩
 | .exit id, σ, Q, _, _, _, h, g, a, w, hr, hn, hb, hA, hg => wpIn_exit ⟨a, rfl, hg, σ, g, h, hr, hn, hb, hA⟩
 | .seq x y, σ, Q, hp, hd, hD, h, g, a, w, hr, hn, hb, hA, hg => by
  simp only [zbb, zby, Bool.and_eq_true] at hd hp
  simp only [zdj, List.mem_append] at hD
  refine wpIn_seq (wpIn_mono (zb5 x σ _ hp.1 hd.1 (fun d h => hD d (Or.inl h)) h g a w hr hn hb hA hg) fun e a' w' hq => ?_)
  obtain ⟨a1, rfl, hg1, σ', g', h1, h2, h3, h4, h5⟩ := hq
  cases e with
  | normal => exact zb5 y σ' Q hp.2 hd.2 (fun d h => hD d (Or.inr h)) h1 g' a1 w' h2 h3 h4 h5 hg1
  | exit i => exact ⟨a1, rfl, hg1, σ', g', h1, h2, h3, h4, h5⟩
  | goto l => exact ⟨a1, rfl, hg1, σ', g', h1, h2, h3, h4, h5⟩
  | ret => exact ⟨a1, rfl, hg1, σ', g', h1, h2, h3, h4, h5⟩
  | panic ch => exact ⟨a1, rfl, hg1, σ', g', h1, h2, h3, h4, h5⟩
  | outgrown => exact ⟨a1, rfl, hg1, σ', g', h1, h2, h3, h4, h5⟩
 | .cond c x y, σ, Q, hp, hd, hD, h, g, a, w, hr, hn, hb, hA, hg => by
  simp only [zbb, zby, Bool.and_eq_true] at hd hp
  simp only [zdj, List.mem_append] at hD
  unfold zff at h
  have hv := hr.get P 0 c
  split at h
  ·rename_i t hc
   rw [hc] at hv
   simp only [VR, CR, zal] at hv
   exact wpIn_cond_split hv (fun ht => zb5 x σ Q hp.1 hd.1 (fun d h => hD d (Or.inl h)) (h.1 ht) g a w hr hn hb hA hg) (fun ht => zb5 y σ Q hp.2 hd.2 (fun d h => hD d (Or.inr h)) (h.2 ht) g a w hr hn hb hA hg)
  ·exact h.elim
 | .block id b, σ, Q, hp, hd, hD, h, g, a, w, hr, hn, hb, hA, hg => by
  refine wpIn_block (wpIn_mono (zb5 b σ _ hp hd hD h g a w hr hn hb hA hg) fun e a' w' hq => ?_)
  obtain ⟨a1, rfl, hg1, σ', g', h1, h2, h3, h4, h5⟩ := hq
  cases e with
  | exit i =>
   simp only [Exit.inBlock]
   simp only at h1
   split at h1
   ·rw [if_pos ‹_›]; exact ⟨a1, rfl, hg1, σ', g', h1, h2, h3, h4, h5⟩
   ·rw [if_neg ‹_›]; exact ⟨a1, rfl, hg1, σ', g', h1, h2, h3, h4, h5⟩
  | normal => exact ⟨a1, rfl, hg1, σ', g', h1, h2, h3, h4, h5⟩
  | goto l => exact ⟨a1, rfl, hg1, σ', g', h1, h2, h3, h4, h5⟩
  | ret => exact ⟨a1, rfl, hg1, σ', g', h1, h2, h3, h4, h5⟩
  | panic ch => exact ⟨a1, rfl, hg1, σ', g', h1, h2, h3, h4, h5⟩
  | outgrown => exact ⟨a1, rfl, hg1, σ', g', h1, h2, h3, h4, h5⟩
 | .region id ops false, σ, Q, hp, hd, hD, h, g, a, w, hr, hn, hb, hA, hg => by
  refine wpIn_region ?_
  have hd' : ∀ o ∈ ops.toList, Oper.nodef o = true /\ ∀ d, o.dst = some d -> d < N /\ D d := fun o ho => by
   simp only [zbb, zby, Array.all_eq_true_iff_forall_mem] at hd hp
   refine ⟨hp o (by simpa using ho), fun d hdd => ⟨?_, hD d (by simp only [zdj, List.mem_filterMap]; exact ⟨o, ho, hdd⟩)⟩⟩
   have := hd o (by simpa using ho)
   rw [hdd] at this
   simpa using this
  rw [List.range_eq_range']
  exact zjd (fun a w σ g h1 h2 h3 h4 h5 h6 => ⟨a, rfl, h6, σ, g, h1, h2, h3, h4, h5⟩) ops.size 0 (by omega) hd' σ g a w (by simpa [zff] using h) hr hn hb hA hg
 | .loop _, _, _, hp, _, _, _, _, _, _, _, _, _, _, _ => by cases hp
 | .region _ _ true, _, _, hp, _, _, _, _, _, _, _, _, _, _, _ => by cases hp
 | .rangeFunc .., _, _, hp, _, _, _, _, _, _, _, _, _, _, _ => by cases hp
 | .scope _, _, _, hp, _, _, _, _, _, _, _, _, _, _, _ => by cases hp
 | .label _, _, _, hp, _, _, _, _, _, _, _, _, _, _, _ => by cases hp
 | .goto _, _, _, hp, _, _, _, _, _, _, _, _, _, _, _ => by cases hp
 | .refuse _, _, _, hp, _, _, _, _, _, _, _, _, _, _, _ => by cases hp
end Go.Proofs.YtemnhgmgeijkcaaGreat
namespace Go.Proofs.YtemnhgmgeijkcaaGreat
set_option linter.unusedSimpArgs false
set_option linter.unusedVariables false
set_option linter.unusedSectionVars false
set_option maxRecDepth 4000
open Go.RowKit
variable {P : Program}
theorem Rel.turn {n0 n1 A1 : Nat -> Prop} {N : Nat} {σ : St} {g : Gh} {a : Act} {w w' : World} (h : Rel n0 N σ g a w) (hF : ∀ b, Fix σ g w b -> A1 b /\ w'.heap[b]? = w.heap[b]?) (hz : w.heap.size <= w'.heap.size)
  (hn : ∀ b, ¬ n1 b -> A1 b /\ g.R0 b) (hb : ∀ k, σ.bx k ≠ none -> ¬ n1 (g.β k) /\ w'.heap[g.β k]? = w.heap[g.β k]?) (he : ∀ e, σ.On e -> ∀ b ∈ g.φ e, ¬ n1 b /\ A1 b /\ w'.heap[b]? = w.heap[b]?) : Rel n1 N σ { g with A0 := A1 } a w' := by
 have m : Mv σ σ g { g with A0 := A1 } w w' := ⟨fun b hf => (hF b hf).2, fun b hf => ⟨hf.1, hf.2.1, Nat.lt_of_lt_of_le hf.2.2.1 hz, (hF b hf).1⟩, fun b hbb => ⟨rfl, hbb⟩, fun e n hh => ⟨hh, rfl⟩, fun b hb => hb.2⟩
 refine ⟨h.defers, h.size, hn, fun i => m.vr (h.slots i), fun b cs hbb => ?_, fun b hbb => (hb b hbb).1, h.inj, fun e x hx ho => m.evr (h.evs e x hx ho) fun b hm => (he e ⟨x, hx, ho⟩ b hm).2.2, fun e x hx ho => ⟨m.rep (h.offs e x hx ho).1, (h.offs e x hx ho).2⟩, h.slc, fun e ho b hm => ⟨(he e ho b hm).2.1, (h.ebase e ho b hm).2⟩, fun e ho b hm => (he e ho b hm).1, h.nodup, h.apart, h.ebx⟩
 obtain ⟨vs, ty, k1, k2⟩ := h.boxes b cs hbb
 exact ⟨vs, ty, by rw [(hb b (by rw [hbb]; simp)).2]; exact k1, m.crs k2⟩
theorem Rel.elt {n0 : Nat -> Prop} {N : Nat} {σ : St} {g : Gh} {a : Act} {w : World} (h : Rel n0 N σ g a w) {e : Nat} (ho : σ.On e) {b : Nat} (hm : b ∈ g.φ e) : b < w.heap.size := by
 obtain ⟨x, hx, hon⟩ := ho
 exact (h.evs e x hx hon).lt b hm
theorem Rel.enter {n0 : Nat -> Prop} {N : Nat} {σ : St} {g : Gh} {a : Act} {w : World} (h : Rel n0 N σ g a w) (o1 o2 : Obj) :
  Rel (fun b => n0 b \/ b = w.heap.size \/ b = w.heap.size + 1) N σ { g with A0 := fun b => g.A0 b /\ b ≠ w.heap.size /\ b ≠ w.heap.size + 1 } a ((w.alloc o1).alloc o2) := by
 have hs : ∀ b, b < w.heap.size -> ((w.alloc o1).alloc o2).heap[b]? = w.heap[b]? := fun b hb => by rw [Below.heap_alloc _ _ _ (by simp; omega), Below.heap_alloc _ _ _ hb]
 refine h.turn (fun b hf => ⟨⟨hf.2.2.2, ?_, ?_⟩, hs b hf.2.2.1⟩) (by simp; omega) (fun b hb => ?_) (fun k hk => ⟨?_, hs _ (h.lt hk)⟩) (fun e ho b hm => ?_)
 ·have := hf.2.2.1; omega
 ·have := hf.2.2.1; omega
 ·have h1 : ¬ n0 b := fun k => hb (Or.inl k)
  exact ⟨⟨(h.anew b h1).1, fun e => hb (Or.inr (Or.inl e)), fun e => hb (Or.inr (Or.inr e))⟩, (h.anew b h1).2⟩
 ·have := h.lt hk
  rintro (k1 | k1 | k1)
  ·exact h.base k hk k1
  ·omega
  ·omega
 ·have := h.elt ho hm
  refine ⟨?_, ⟨(h.ebase e ho b hm).1, by omega, by omega⟩, hs b this⟩
  rintro (k1 | k1 | k1)
  ·exact h.etop e ho b hm k1
  ·omega
  ·omega
theorem Rel.putObj {n1 : Nat -> Prop} {N : Nat} {σ : St} {g : Gh} {a : Act} {w : World} (h : Rel n1 N σ g a w) {l : Nat} (hl : n1 l) (hA : ¬ g.A0 l) (o : Obj) : Rel n1 N σ g a (w.putObj l o) := by
 have := h.turn (n1 := n1) (A1 := g.A0) (w' := w.putObj l o) (fun b hf => ⟨hf.2.2.2, World.putObj_heap_other (fun e => hA (e ▸ hf.2.2.2))⟩) (by simp) h.anew
  (fun k hk => ⟨h.base k hk, World.putObj_heap_other (fun e => h.base k hk (e ▸ hl))⟩) (fun e ho b hm => ⟨h.etop e ho b hm, (h.ebase e ho b hm).1, World.putObj_heap_other (fun e' => h.etop e ho b hm (e' ▸ hl))⟩)
 exact this
theorem Rel.leave {n0 n1 A1 : Nat -> Prop} {N : Nat} {σ : St} {g : Gh} {a : Act} {w : World} (h : Rel n1 N σ g a w) (hn : ∀ b, n0 b -> n1 b) (hA : ∀ b, g.A0 b -> A1 b) (hnew : ∀ b, ¬ n0 b -> A1 b /\ g.R0 b) : Rel n0 N σ { g with A0 := A1 } a w :=
 h.turn (fun b hf => ⟨hA b hf.2.2.2, rfl⟩) (Nat.le_refl _) hnew (fun k hk => ⟨fun k1 => h.base k hk (hn _ k1), rfl⟩) (fun e ho b hm => ⟨fun k1 => h.etop e ho b hm (hn _ k1), hA b (h.ebase e ho b hm).1, rfl⟩)
theorem Rel.frame {n0 : Nat -> Prop} {N : Nat} {σ : St} {g : Gh} {a a0 : Act} {w : World} (h : Rel n0 N σ g a w) {D : Nat -> Prop} (hg : Ag D a0 a) (hd : a0.defers = []) (hz : a0.tmps.size = N) (hany : ∀ i, D i -> σ.sl i = .one .any) : Rel n0 N σ g a0 w := by
 refine h.slots_of rfl rfl hd hz fun i => ?_
 by_cases hi : D i
 ·rw [hany i hi]; trivial
 ·have h1 := hg i hi
  have h2 := h.slots i
  have e : a0.tmps.getD i (g.R0.ξ i) = a.tmps.getD i (g.R0.ξ i) := by
   rw [Array.getD_eq_getD_getElem?, Array.getD_eq_getD_getElem?] at h1 ⊢
   by_cases hlt : i < N
   ·have s1 : i < a.tmps.size := by rw [h.size]; exact hlt
    have s2 : i < a0.tmps.size := by rw [hz]; exact hlt
    simp only [Array.getElem?_eq_getElem s1, Array.getElem?_eq_getElem s2, Option.getD_some] at h1 ⊢
    exact h1.symm
   ·have s1 : ¬ i < a.tmps.size := by rw [h.size]; exact hlt
    have s2 : ¬ i < a0.tmps.size := by rw [hz]; exact hlt
    simp [s1, s2]
  rw [e]; exact h2
def agv (ag : Bool) (r : List Value) : Value := if ag = true then .agg ⟨r⟩ else r.headD undef
def zqt (P : Program) (f : FuncId) (ag : Bool) (sz : Nat) : Prop := ∀ (l Bs n : Nat) (W : World) (J : Nat -> World -> Prop), n <= zd7 →
 (∀ W, J 0 W -> ∃ ao cap, W.cell? ⟨Bs, 0, none⟩ = some (.slice ao n cap)) →
 (∀ k W, J k W -> k < n -> ∃ b o cap r, W.cell? ⟨Bs, 0, none⟩ = some (.slice (some ⟨b, o, none⟩) n cap) /\ r.length = sz /\ (∀ j v, r[j]? = some v -> W.cell? ⟨b, o + (n - 1 - k) * sz + j, none⟩ = some v) ∧
  YieldAt (FR none) 5 P l #[.int .i64 ((n - 1 - k : Nat) : Int), agv ag r] W fun e W' => e = .returned (.bool true) /\ J (k + 1) W') →
 J 0 W -> CallsIn (FR none) 6 P f #[.func (.yield l) #[] #[], .pointer (some ⟨Bs, 0, none⟩)] W fun e W' => (∃ v, e = .returned v) /\ J n W'
theorem za5.valsN {w : World} {A : Nat -> Prop} {b : Nat} : ∀ {cs : List T} {o : Nat}, za5 w A b o cs -> ∃ vs, zad w A cs vs /\ ∀ j v, vs[j]? = some v -> w.cell? ⟨b, o + j, none⟩ = some v
 | [], _, _ => ⟨[], by unfold zad; rfl, fun j v h => by simp at h⟩
 | c :: cs, o, h => by
  unfold za5 at h
  obtain ⟨⟨v, h1, h2⟩, h3⟩ := h
  obtain ⟨vs, k1, k2⟩ := za5.valsN h3
  refine ⟨v :: vs, by unfold zad; exact ⟨v, vs, rfl, h2, k1⟩, fun j u hj => ?_⟩
  cases j with
  | zero => simp only [List.getElem?_cons_zero, Option.some.injEq] at hj; subst hj; exact h1
  | succ j =>
   have := k2 j u (by simpa using hj)
   rwa [show o + (j + 1) = o + 1 + j by omega]
def qfu (ag : Bool) (r : List T) : V := if ag = true then .agg (r.map T.toN) else .one (r.headD (.bool false)).toN
theorem qhc {σ : St} {g : Gh} {w : World} {ag : Bool} {r : List T} {vs : List Value} (hag : ag = true \/ r.length = 1) (h : zad w (zcg σ g w) r vs) : VR σ g w (qfu ag r) (agv ag vs) := by
 cases ag with
 | true => exact ⟨vs, rfl, zph (fun _ h => h) h⟩
 | false =>
  have hl := hag.resolve_left (by simp)
  match r, hl, h with
  | [c], _, h =>
   unfold zad at h
   obtain ⟨v, vs', rfl, h1, h2⟩ := h
   exact qad (fun _ h => h) h1
theorem Bk.mono {n0 n1 : Nat -> Prop} {w w' : World} (h : Bk n1 w w') (hn : ∀ b, n0 b -> n1 b) : Bk n0 w w' := ⟨h.os, h.tape, h.output, h.size, fun k hk => h.block k (hn k hk)⟩
theorem Bk.putObj {n0 : Nat -> Prop} (w : World) {l : Nat} (hl : ¬ n0 l) (o : Obj) : Bk n0 w (w.putObj l o) := ⟨rfl, rfl, rfl, by simp, fun k hk => World.putObj_heap_other (fun e => hl (e ▸ hk))⟩
theorem zpi {n0 : Nat -> Prop} {N : Nat} {σ : St} {g : Gh} {a : Act} {w : World} (h : Rel n0 N σ g a w) {id sz : Nat} {rows : List (List T)} (hb : σ.bx id = some [.rn (.sl sz rows)]) :
  ∃ ao cap, w.cell? ⟨g.β id, 0, none⟩ = some (.slice ao rows.length cap) /\ rows.length <= zd7 /\ (rows = [] \/ ∃ b o, ao = some ⟨b, o, none⟩ /\ zam w (zcg σ g w) b o sz rows) := by
 obtain ⟨⟨vl⟩, ty, k1, v, vs', rfl, k2, k3⟩ := h.boxes id _ hb
 obtain rfl : vs' = [] := k3
 simp only [CR] at k2
 unfold zal at k2
 obtain ⟨ao, cap, rfl, h2, h3, h4⟩ := k2
 refine ⟨ao, cap, by simp [World.cell?, k1], by omega, h4.imp (fun h => h) ?_⟩
 rintro ⟨b, o, e1, _, e2⟩
 exact ⟨b, o, e1, e2⟩
theorem zms {F1 : FuncId} {ag : Bool} {sz t p1 p2 id N m : Nat} {asg bd : Code} (hB : zqt P F1 ag sz) (hc : za3 P F1) (hpa : zby asg = true) (hpb : zby bd = true) (hda : zbb N asg = true) (hdb : zbb N bd = true) (hp1 : p1 < N) (hp2 : p2 < N) (ht : t < 1000000)
  (H : Nat -> St) (rows : List (List T)) (hag : ag = true \/ sz = 1) (hslot : ∀ k, (H k).sl t = .one (.fn F1 [id]) /\ (H k).bx id = some [.rn (.sl sz rows)]) (hany : ∀ k, ∀ i ∈ p1 :: p2 :: (zdj asg ++ zdj bd), (H k).sl i = .one .any)
  (hround : ∀ k, k < rows.length -> zff P asg (((H k).put (some p1) (.one (.t (.int .i64 ((rows.length - 1 - k : Nat) : Int))))).put (some p2) (qfu ag (rows.getD (rows.length - 1 - k) []))) fun e σ2 => e = .normal /\ zff P bd σ2 fun e σ3 => e = .normal /\ Wk σ3 (H (k + 1)))
  {n0 : Nat -> Prop} {g : Gh} {a : Act} {w0 w : World} (hR : Rel n0 N (H 0) g a w) (hn : LtK n0 w) (hb : Bk n0 w0 w) {Q : Exit -> Act -> World -> Prop}
  (hQ : ∀ g' w', Rel (fun b => n0 b \/ b = w.heap.size \/ b = w.heap.size + 1) N (H rows.length) g' a w' -> LtK (fun b => n0 b \/ b = w.heap.size \/ b = w.heap.size + 1) w' -> Bk n0 w0 w' -> w'.heap[w.heap.size]? = some (.deferred (some [])) →
   (g'.A0, g'.R0) = ((fun b => g.A0 b /\ b ≠ w.heap.size /\ b ≠ w.heap.size + 1), g.R0) -> Q .normal { a with defers := [{ target := .collected w.heap.size, args := #[] }] } w') :
  (Code.rangeFunc (.tmp t) #[p1, p2] asg bd).wpIn (FR none) m P Q a w := by
 obtain ⟨n1, hn1⟩ : ∃ n1 : Nat -> Prop, n1 = fun b => n0 b \/ b = w.heap.size \/ b = w.heap.size + 1 := ⟨_, rfl⟩
 obtain ⟨A1, hA1⟩ : ∃ A1 : (Nat -> Prop) × RP, A1 = ((fun b => g.A0 b /\ b ≠ w.heap.size /\ b ≠ w.heap.size + 1), g.R0) := ⟨_, rfl⟩
 rw [<- hn1, <- hA1] at hQ
 have hD1 : n1 w.heap.size := by rw [hn1]; exact Or.inr (Or.inl rfl)
 have hl1 : n1 (w.heap.size + 1) := by rw [hn1]; exact Or.inr (Or.inr rfl)
 have hsub : ∀ b, n0 b -> n1 b := fun b h => by rw [hn1]; exact Or.inl h
 have hl0 : ¬ n0 (w.heap.size + 1) := hn.new (by omega)
 have hAl : ∀ g' : Gh, (g'.A0, g'.R0) = A1 -> ¬ g'.A0 (w.heap.size + 1) := fun g' h k => by rw [hA1] at h; rw [(Prod.mk.inj h).1] at k; exact k.2.2 rfl
 have hv0 : a.tmps.getD t undef = .func (.func F1) #[] ⟨[.pointer (some ⟨g.β id, 0, none⟩)]⟩ := by
  have := hR.slot_at ht
  rw [(hslot 0).1] at this
  exact this.1
 have hβ : ∀ {k g' W}, Rel n1 N (H k) g' a W -> g'.β id = g.β id := fun {k g' W} h => by
  have h1 := h.slot_at ht
  rw [(hslot k).1] at h1
  have h2 := h1.1
  rw [hv0] at h2
  simp only [List.map_cons, List.map_nil, Value.func.injEq, Array.mk.injEq, List.cons.injEq, Value.pointer.injEq, Option.some.injEq, Addr.mk.injEq, and_true, true_and] at h2
  exact h2.symm
 refine wpIn_rangeFunc ?_
 intro fn hfn
 obtain ⟨rec, hrec⟩ : ∃ rec : LoopState -> Loop, rec = fun st => { state := st, pending := none, fn, tmps := a.tmps, params := #[p1, p2], assign := asg, body := bd, defers := w.heap.size } := ⟨_, rfl⟩
 obtain ⟨W1, hW1⟩ : ∃ W1, (w.alloc (.deferred (some []))).alloc (.loop (rec .ready)) = W1 := ⟨_, rfl⟩
 have hL1 : W1.heap[w.heap.size + 1]? = some (.loop (rec .ready)) := by
  rw [<- hW1]; have := World.alloc_heap_new (w.alloc (.deferred (some []))) (.loop (rec .ready)); rwa [World.size_alloc] at this
 have hK1 : W1.heap[w.heap.size]? = some (.deferred (some [])) := by
  rw [<- hW1]; exact (Below.heap_alloc _ _ _ (by simp)).trans (World.alloc_heap_new w _)
 have hR1 : Rel n1 N (H 0) { g with A0 := fun b => g.A0 b /\ b ≠ w.heap.size /\ b ≠ w.heap.size + 1 } a W1 := by rw [<- hW1, hn1]; exact hR.enter _ _
 have hb1 : Bk n0 w0 W1 := by rw [<- hW1]; exact (hb.trans (Bk.of_alloc hn _)).trans (Bk.of_alloc (hn.mono (by simp)) _)
 have hz1 : LtK n1 W1 := by
  rw [<- hW1, hn1]
  rintro k (h | rfl | rfl)
  ·have := hn k h; simp; omega
  ·simp; omega
  ·simp
 have hg : a.eval (.tmp t) = .func (.func F1) #[] #[.pointer (some ⟨g.β id, 0, none⟩)] := hv0
 refine ⟨w.heap.size + 1, [{ target := .collected w.heap.size, args := #[] }], W1, { target := .fn (.func F1) #[.pointer (some ⟨g.β id, 0, none⟩)], args := #[.func (.yield (w.heap.size + 1)) #[] #[]] }, W1, F1,
  #[.func (.yield (w.heap.size + 1)) #[] #[]] ++ #[.pointer (some ⟨g.β id, 0, none⟩)], W1, ?_, ?_, fun _ _ => trivial, ?_, (fun h => by cases h), ?_⟩
 ·rw [<- hW1, hrec]; exact run_enterLoop_outer _ _ _ _ _
 ·simp only [resolve, hg]
  simp [go_sem]
 ·have hc' : ∀ (args : Array Value) (w : World), (callFunc F1 args).run P w = .ok (.enter F1 args) w := hc
  simp [invoke, go_sem, hc']
 ·have hgA : ∀ {g' : Gh}, (g'.A0, g'.R0) = A1 -> g'.R0 = g.R0 := fun {g'} h => by rw [hA1] at h; exact (Prod.mk.inj h).2
  obtain ⟨J, hJ⟩ : ∃ J : Nat -> World -> Prop, J = fun k W => (∃ gk, Rel n1 N (H k) gk a W /\ (gk.A0, gk.R0) = A1) /\ LtK n1 W /\ Bk n0 w0 W /\ W.heap[w.heap.size + 1]? = some (.loop (rec .ready)) /\ W.heap[w.heap.size]? = some (.deferred (some [])) := ⟨_, rfl⟩
  have hmax : rows.length <= zd7 := by obtain ⟨_, _, _, h, _⟩ := zpi hR1 (hslot 0).2; exact h
  refine CallsIn.mono (ze9.2 (ze9.1 (hB (w.heap.size + 1) (g.β id) rows.length W1 J hmax ?_ ?_ ?_))) ?_
  ·rintro W h
   rw [hJ] at h
   obtain ⟨⟨gk, k1, k2⟩, _⟩ := h
   obtain ⟨ao, cap, h1, _⟩ := zpi k1 (hslot 0).2
   rw [hβ k1] at h1
   exact ⟨ao, cap, h1⟩
  ·rintro k W h hk
   rw [hJ] at h
   obtain ⟨⟨gk, k1, k2⟩, k3, k4, k5, k6⟩ := h
   obtain ⟨ao, cap, h1, _, h2⟩ := zpi k1 (hslot k).2
   rw [hβ k1] at h1
   obtain ⟨b, o, rfl, h3⟩ := h2.resolve_left (fun e => by rw [e] at hk; simp at hk)
   have hi : rows.length - 1 - k < rows.length := by omega
   obtain ⟨h4, h5⟩ := h3.at (rows.length - 1 - k) rows[rows.length - 1 - k] (by simp [hi])
   obtain ⟨vs, h6, h7⟩ := h5.valsN
   refine ⟨b, o, cap, vs, h1, by rw [h6.len]; exact h4, h7, ?_⟩
   have hy := run_yield (P := P) (args := #[.int .i64 ((rows.length - 1 - k : Nat) : Int), agv ag vs]) k5 (by rw [hrec]; rfl)
   rw [hrec] at hy
   refine ⟨fn, _, asg, bd, hy, roundIn_of_wpIn hfn ?_⟩
   clear hy
   have hda' : a.defers = [] := k1.defers
   have hex := hround k hk
   rw [show rows.getD (rows.length - 1 - k) [] = rows[rows.length - 1 - k] by simp [hi]] at hex
   have q1 : Rel n1 N (((H k).put (some p1) (.one (.t (.int .i64 ((rows.length - 1 - k : Nat) : Int))))).put (some p2) (qfu ag rows[rows.length - 1 - k])) gk ((a.put (some p1) (.int .i64 ((rows.length - 1 - k : Nat) : Int))).put (some p2) (agv ag vs)) W := by
    refine (k1.put (some p1) (v := .int .i64 ((rows.length - 1 - k : Nat) : Int)) ?_ (fun i e => by cases e; exact hp1)).put (some p2) ?_ (fun i e => by cases e; exact hp2)
    ·show zal _ _ _ _
     unfold zal
     have m1 : IntKind.min .i64 = -9223372036854775808 := by decide
     have m2 : IntKind.max .i64 = 9223372036854775807 := by decide
     unfold zd7 at hmax
     exact ⟨rfl, by omega, by omega⟩
    ·exact (Mv.of_eq gk W rfl rfl).vr (qhc (hag.imp (fun h => h) fun h => by rw [h4, h]) h6)
   have q2 : Ag (fun i => i ∈ p1 :: p2 :: (zdj asg ++ zdj bd)) a ((a.put (some p1) (.int .i64 ((rows.length - 1 - k : Nat) : Int))).put (some p2) (agv ag vs)) :=
    ((Ag.refl _ a).put (fun i e => by cases e; simp) _).put (fun i e => by cases e; simp) _
   have ef : (#[p1, p2].zip #[.int .i64 ((rows.length - 1 - k : Nat) : Int), agv ag vs]).foldl (fun (tmps : Array Value) (x : Nat × Value) => match x with | (t, v) => tmps.setIfInBounds t v) a.tmps = ((a.put (some p1) (.int .i64 ((rows.length - 1 - k : Nat) : Int))).put (some p2) (agv ag vs)).tmps := by simp [Act.put]
   show asg.wpIn (FR (some (w.heap.size + 1))) 5 P _ { tmps := (#[p1, p2].zip #[.int .i64 ((rows.length - 1 - k : Nat) : Int), agv ag vs]).foldl (fun (tmps : Array Value) (x : Nat × Value) => match x with | (t, v) => tmps.setIfInBounds t v) a.tmps, defers := [] } W
   rw [ef]
   refine wpIn_mono (zb5 (r := some (w.heap.size + 1)) (n := 5) (ds := []) (D := fun i => i ∈ p1 :: p2 :: (zdj asg ++ zdj bd)) (a0 := a) asg _ _ hpa hda (fun d hd => by simp [hd]) hex gk _ W q1 k3 (Bk.refl n1 W) k2 q2) ?_
   rintro e a2 W2 ⟨a1, rfl, q3, σ2, g2, ⟨rfl, hex2⟩, q4, q5, q6, q7⟩
   have r1 : W2.heap[w.heap.size + 1]? = some (.loop (rec .ready)) := (q6.block _ hl1).trans k5
   refine ⟨_, run_beginRound r1 (by rw [hrec]), ?_⟩
   have q4' := q4.putObj hl1 (hAl g2 q7) (.loop { rec .ready with state := .busy })
   have q5' : LtK n1 (W2.putObj (w.heap.size + 1) (.loop { rec .ready with state := .busy })) := fun b hb => by have := q5 b hb; simpa using this
   refine wpIn_mono (zb5 (r := some (w.heap.size + 1)) (n := 5) (ds := []) (D := fun i => i ∈ p1 :: p2 :: (zdj asg ++ zdj bd)) (a0 := a) bd _ _ hpb hdb (fun d hd => by simp [hd]) hex2 g2 _ _ q4' q5' (Bk.refl n1 _) q7 q3) ?_
   rintro e a3 W3 ⟨a4, rfl, s3, σ3, g3, ⟨rfl, hwk⟩, s4, s5, s6, s7⟩
   have r2 : W3.heap[w.heap.size + 1]? = some (.loop { rec .ready with state := .busy }) := (s6.block _ hl1).trans (World.putObj_heap_same (Array.getElem?_eq_some_iff.1 r1).1)
   have r3 := run_endRound (P := P) none r2
   obtain ⟨g4, t1, t2, t3⟩ := hwk _ _ _ _ _ s4
   have hA4 : (g4.A0, g4.R0) = A1 := by rw [t2, t3]; exact s7
   have t4 : Rel n1 N (H (k + 1)) g4 a W3 := t1.frame s3 hda' k1.size (hany (k + 1))
   refine ⟨_, _, r3, rfl, ?_⟩
   rw [hJ]
   refine ⟨⟨g4, t4.putObj hl1 (hAl g4 hA4) _, hA4⟩, fun b hb => by have := s5 b hb; simpa using this, ?_, by rw [World.putObj_heap_same (Array.getElem?_eq_some_iff.1 r2).1, hrec]; rfl, ?_⟩
   ·exact (((k4.trans (q6.mono hsub)).trans (Bk.putObj _ hl0 _)).trans (s6.mono hsub)).trans (Bk.putObj _ hl0 _)
   ·rw [World.putObj_heap_other (by omega), s6.block _ hD1, World.putObj_heap_other (by omega), q6.block _ hD1]; exact k6
  ·rw [hJ]
   exact ⟨⟨_, hR1, hA1.symm⟩, hz1, hb1, hL1, hK1⟩
  ·rintro e W2 ⟨⟨v, rfl⟩, h⟩
   rw [hJ] at h
   obtain ⟨⟨gk, k1, k2⟩, k3, k4, k5, k6⟩ := h
   refine ⟨none, _, by have := run_endLoop (P := P) k5 (by rw [hrec]; simp); rw [hrec] at this; exact this, ?_⟩
   have hda' : a.defers = [] := k1.defers
   show Q .normal { a with defers := [{ target := .collected w.heap.size, args := #[] }] ++ a.defers } _
   rw [hda', List.append_nil]
   exact hQ gk _ (k1.putObj hl1 (hAl gk k2) _) (fun b hb => by have := k3 b hb; simpa using this) (k4.trans (Bk.putObj _ hl0 _)) ((World.putObj_heap_other (by omega)).trans k6) k2
end Go.Proofs.YtemnhgmgeijkcaaGreat
namespace Go.Proofs.YtemnhgmgeijkcaaGreat
set_option linter.unusedSimpArgs false
set_option linter.unusedVariables false
set_option linter.unusedSectionVars false
set_option maxRecDepth 4000
open Go.RowKit
variable {P : Program}
def zdp : Code -> Option (Code × (Operand × Array Tmp × Code × Code) × Code)
 | .rangeFunc g ps asg bd => some (.skip, (g, ps, asg, bd), .skip)
 | .block _ b => match b with
  | .rangeFunc g ps asg bd => some (.skip, (g, ps, asg, bd), .skip)
  | _ => none
 | .seq x y => match zdp x with
  | some (p, r, q) => some (p, r, .seq q y)
  | none => match zdp y with
   | some (p, r, q) => some (.seq x p, r, q)
   | none => none
 | _ => none
def zt4 (P : Program) (N : Nat) (g : Operand) (ps : Array Tmp) (asg bd q : Code) (Q : Exit -> St -> Prop) (σ : St) : Prop :=
 ∃ (F1 : FuncId) (ag : Bool) (sz t p1 p2 id : Nat) (H : Nat -> St) (rows : List (List T)), g = .tmp t /\ ps = #[p1, p2] /\ zqt P F1 ag sz /\ za3 P F1 /\ (p1 < N /\ p2 < N /\ t < 1000000) /\ (ag = true \/ sz = 1) ∧
  (∀ k, (H k).sl t = .one (.fn F1 [id]) /\ (H k).bx id = some [.rn (.sl sz rows)]) /\ (∀ k, ∀ i ∈ p1 :: p2 :: (zdj asg ++ zdj bd), (H k).sl i = .one .any) ∧
  (∀ k, k < rows.length -> zff P asg (((H k).put (some p1) (.one (.t (.int .i64 ((rows.length - 1 - k : Nat) : Int))))).put (some p2) (qfu ag (rows.getD (rows.length - 1 - k) []))) fun e σ2 => e = .normal /\ zff P bd σ2 fun e σ3 => e = .normal /\ Wk σ3 (H (k + 1))) ∧
  Wk σ (H 0) /\ zff P q (H rows.length) Q
def qcn (n0 : Nat -> Prop) (N : Nat) (w0 : World) (A0 : (Nat -> Prop) × RP) (Q : Exit -> St -> Prop) (e : Exit) (a : Act) (w : World) : Prop :=
 ∃ (D : Nat) (n1 : Nat -> Prop) (a1 : Act) (σ : St) (g : Gh), a = { a1 with defers := [{ target := .collected D, args := #[] }] } /\ Q e σ /\ Rel n1 N σ g a1 w /\ LtK n1 w /\ Bk n0 w0 w /\ w.heap[D]? = some (.deferred (some [])) /\ n1 D /\ ¬ n0 D /\ (∀ b, n0 b -> n1 b) /\ ¬ g.A0 D /\ (∀ b, g.A0 b -> A0.1 b) /\ g.R0 = A0.2
theorem ztt {n0 : Nat -> Prop} {N n : Nat} {w0 : World} {A0 : (Nat -> Prop) × RP} {Q : Exit -> St -> Prop} {y : Code} (hp : zby y = true) (hd : zbb N y = true) {a : Act} {w : World} (h : qcn n0 N w0 A0 (fun _ σ => zff P y σ Q) .normal a w) :
  y.wpIn (FR none) n P (qcn n0 N w0 A0 Q) a w := by
 obtain ⟨D, n1, a1, σ, g, rfl, h1, h2, h3, h4, h5, h6, h7, h8, h9, h10, h11⟩ := h
 refine wpIn_mono (zb5 (r := none) (n := n) (ds := [{ target := .collected D, args := #[] }]) (D := fun _ => True) (a0 := a1) (A0 := (g.A0, g.R0)) y σ Q hp hd (fun _ _ => trivial) h1 g a1 w h2 h3 (Bk.refl n1 w) rfl (Ag.refl _ _)) ?_
 rintro e a' w' ⟨a2, rfl, _, σ', g', k1, k2, k3, k4, k5⟩
 have e1 : g'.A0 = g.A0 := (Prod.mk.inj k5).1
 have e2 : g'.R0 = g.R0 := (Prod.mk.inj k5).2
 exact ⟨D, n1, a2, σ', g', rfl, k1, k2, k3, h4.trans (k4.mono h8), (k4.block D h6).trans h5, h6, h7, h8, by rw [e1]; exact h9, by rw [e1]; exact h10, by rw [e2]; exact h11⟩
theorem zqk {N n : Nat} {n0 : Nat -> Prop} {w0 : World} {A0 : (Nat -> Prop) × RP} : ∀ {c p q : Code} {g : Operand} {ps : Array Tmp} {asg bd : Code} {Q1 Q2 : Exit -> St -> Prop} {Q : Exit -> Act -> World -> Prop}, zdp c = some (p, (g, ps, asg, bd), q) →
  zbb N p = true -> zbb N q = true -> zby q = true -> (zby asg = true /\ zby bd = true /\ zbb N asg = true /\ zbb N bd = true) -> (∀ σ, Q1 .normal σ -> zt4 P N g ps asg bd q Q2 σ) →
  (∀ e a w, e ≠ .normal -> qav n0 N w0 A0 Q1 e a w -> Q e a w) -> (∀ e a w, qcn n0 N w0 A0 Q2 e a w -> Q e a w) →
  ∀ {σ : St} {gh : Gh} {a : Act} {w : World}, zff P p σ Q1 -> Rel n0 N σ gh a w -> LtK n0 w -> Bk n0 w0 w -> (gh.A0, gh.R0) = A0 -> c.wpIn (FR none) n P Q a w := by
 intro c
 have loop : ∀ {g : Operand} {ps : Array Tmp} {asg bd : Code} {Q1 Q2 : Exit -> St -> Prop} {Q : Exit -> Act -> World -> Prop}, (zby asg = true /\ zby bd = true /\ zbb N asg = true /\ zbb N bd = true) -> (∀ σ, Q1 .normal σ -> zt4 P N g ps asg bd .skip Q2 σ) →
   (∀ a w, qcn n0 N w0 A0 Q2 .normal a w -> Q .normal a w) -> ∀ {σ : St} {gh : Gh} {a : Act} {w : World}, zff P .skip σ Q1 -> Rel n0 N σ gh a w -> LtK n0 w -> Bk n0 w0 w -> (gh.A0, gh.R0) = A0 -> (Code.rangeFunc g ps asg bd).wpIn (FR none) n P Q a w := by
  intro g ps asg bd Q1 Q2 Q ha hL hq σ gh a w hex hR hn hb hA
  obtain ⟨F1, ag, sz, t, p1, p2, id, H, rows, rfl, rfl, h1, h2, h3, h4, h5, h6, h7, h8, h9⟩ := hL σ hex
  obtain ⟨g1, k1, k2, k3⟩ := h8 _ _ _ _ _ hR
  refine zms h1 h2 ha.1 ha.2.1 ha.2.2.1 ha.2.2.2 h3.1 h3.2.1 h3.2.2 H rows h4 h5 h6 h7 k1 hn hb fun g' w' q1 q2 q3 q4 q5 => hq _ _ ?_
  refine ⟨w.heap.size, _, a, H rows.length, g', rfl, h9, q1, q2, q3, q4, Or.inr (Or.inl rfl), hn.new (Nat.le_refl _), fun b hb => Or.inl hb, ?_, ?_, ?_⟩
  ·rw [(Prod.mk.inj q5).1]; exact fun h => h.2.1 rfl
  ·rw [(Prod.mk.inj q5).1, <- hA]; intro b hb; rw [k2] at hb; exact hb.1
  ·rw [(Prod.mk.inj q5).2, <- hA]; exact k3
 induction c with
 | rangeFunc g ps asg bd _ _ =>
  intro p q g' ps' asg' bd' Q1 Q2 Q h hdp hdq hpq ha hL hx hq σ gh a w hex hR hn hb hA
  simp only [zdp, Option.some.injEq, Prod.mk.injEq] at h
  obtain ⟨rfl, ⟨rfl, rfl, rfl, rfl⟩, rfl⟩ := h
  exact loop ha hL (fun a w => hq .normal a w) hex hR hn hb hA
 | block i b _ =>
  intro p q g' ps' asg' bd' Q1 Q2 Q h hdp hdq hpq ha hL hx hq σ gh a w hex hR hn hb hA
  cases b with
  | rangeFunc g ps asg bd =>
   simp only [zdp, Option.some.injEq, Prod.mk.injEq] at h
   obtain ⟨rfl, ⟨rfl, rfl, rfl, rfl⟩, rfl⟩ := h
   exact wpIn_block (loop (Q := Exit.inBlock i Q) ha hL (fun a w k => hq .normal a w k) hex hR hn hb hA)
  | _ => simp [zdp] at h
 | seq x y ihx ihy =>
  intro p q g' ps' asg' bd' Q1 Q2 Q h hdp hdq hpq ha hL hx hq σ gh a w hex hR hn hb hA
  unfold zdp at h
  split at h
  ·rename_i p1 r1 q1 hs
   simp only [Option.some.injEq, Prod.mk.injEq] at h
   obtain ⟨rfl, rfl, rfl⟩ := h
   simp only [zbb, zby, Bool.and_eq_true] at hdq hpq
   refine wpIn_seq (ihx (Q1 := Q1) (Q2 := fun e σ => match e with | .normal => zff P y σ Q2 | e => Q2 e σ) hs hdp hdq.1 hpq.1 ha hL (fun e a w he k => ?_) (fun e a w k => ?_) hex hR hn hb hA)
   ·have := hx e a w he k
    cases e <;> first | exact absurd rfl he | exact this
   ·cases e with
    | normal => exact wpIn_mono (ztt hpq.2 hdq.2 k) hq
    | exit i => exact hq _ _ _ k
    | goto l => exact hq _ _ _ k
    | ret => exact hq _ _ _ k
    | panic ch => exact hq _ _ _ k
    | outgrown => exact hq _ _ _ k
  ·split at h
   ·rename_i p1 r1 q1 hs
    simp only [Option.some.injEq, Prod.mk.injEq] at h
    obtain ⟨rfl, rfl, rfl⟩ := h
    simp only [zbb, Bool.and_eq_true] at hdp
    refine wpIn_seq (wpIn_mono (Q := qav n0 N w0 A0 _) ((wpIn_wide (n := n)).2 (za8 x σ _ hdp.1 hex gh a w hR hn hb hA)) fun e a' w' k => ?_)
    cases e with
    | normal =>
     obtain ⟨σ', g', h1, h2, h3, h4, h5⟩ := k
     exact ihy hs hdp.2 hdq hpq ha hL hx hq h1 h2 h3 h4 h5
    | exit i => exact hx _ _ _ (by simp) k
    | goto l => exact hx _ _ _ (by simp) k
    | ret => exact hx _ _ _ (by simp) k
    | panic ch => exact hx _ _ _ (by simp) k
    | outgrown => exact hx _ _ _ (by simp) k
   ·cases h
 | _ => intro p q g' ps' asg' bd' Q1 Q2 Q h; simp [zdp] at h
theorem qff {n0 : Nat -> Prop} {N : Nat} {σ : St} {g : Gh} {a : Act} {w : World} {fp : List Nat} {sz : Nat} (hR : Rel n0 N σ g a w) (hr : g.R0 = RP.of fun b => b ∈ fp \/ sz <= b) (fn : Func) {res : List D} (hk : zaq (zbr P σ fn.results.toList) (fun vs => qak σ [] vs res) \/ PX P fn.results.toList res σ) :
  ∃ v, (results fn a.tmps).run P w = .ok v w /\ ∃ us fp' tp', Ending.returned v = .returned (zbs us) /\ GDs w res us fp' tp' /\ fp'.Nodup /\ ∀ b ∈ fp', b ∈ fp \/ sz <= b := by
 have fin : ∀ {us : List Value} {v : Value}, (results fn a.tmps).run P w = .ok v w -> v = zbs us -> (∃ fp' tp', GDs w res us fp' tp' /\ fp'.Nodup /\ ∀ b ∈ fp', ∃ e, σ.On e /\ b ∈ g.φ e) -> ∃ v, (results fn a.tmps).run P w = .ok v w /\ ∃ us fp' tp', Ending.returned v = .returned (zbs us) /\ GDs w res us fp' tp' /\ fp'.Nodup /\ ∀ b ∈ fp', b ∈ fp \/ sz <= b := fun {us v} r1 rv ⟨fp', tp', o1, o2, o3⟩ => by
  refine ⟨_, r1, us, fp', tp', by rw [rv], o1, o2, fun b hb => ?_⟩
  obtain ⟨e, l, m⟩ := o3 b hb
  have := (hR.ebase e l b m).2
  rw [hr] at this
  exact this
 rcases hk with hk | ⟨pl, hk⟩
 ·obtain ⟨vs, hvs, hk⟩ := zap hk
  obtain ⟨us, r1, r2⟩ := zbj hR fn hvs
  obtain ⟨used, fp', tp', o1, o2⟩ := zda hR hk r2
  exact fin r1 rfl ⟨fp', tp', o1, o2.1, fun b hb => by obtain ⟨e, _, _, l, m⟩ := o2.2.1 b hb; exact ⟨e, l, m⟩⟩
 ·obtain ⟨vs, hvs, hk⟩ := zap hk
  obtain ⟨us, r1, r2⟩ := zbj hR fn hvs
  exact fin r1 rfl (zw9 hR hk r2)
theorem FC_ofB {f : FuncId} {fn : Func} {c p q asg bd : Code} {g : Operand} {ps : Array Tmp} {args res : List D} (hc : za3 P f) (hf : P.funcs[f]? = some fn) (hb : fn.body = some c) (hs : zdp c = some (p, (g, ps, asg, bd), q))
  (hd : (zbb fn.ntmps p && zbb fn.ntmps q && zby q && (zby asg && zby bd && zbb fn.ntmps asg && zbb fn.ntmps bd)) = true) (hN : (rd args).length <= fn.ntmps)
  (h : ex P p [] (fun e σ => match e with | .normal => zt4 P fn.ntmps g ps asg bd q (PS P fn.results.toList res) σ | .ret => PS P fn.results.toList res .ret σ | _ => False) (zfx args)) : FC P f args res := by
 refine ⟨hc, fun w vs fp tp hv hn => ?_⟩
 refine (ze9 (r := none) (n := 0)).1 (callsIn_of_wp_marks hf hb trivial ?_)
 obtain ⟨hr, rfl, rfl⟩ := zcc hv
 have hv' : za0 w (fun b => b < w.heap.size /\ True /\ b ∉ ([] : List Nat)) (rd args) vs [] [] := za0.keepA (fun b hb => ⟨hb.1, trivial, hb.2⟩) hv
 obtain ⟨gh, hg, hR⟩ := Rel.start (A0 := fun _ => True) (R0 := RP.of fun b => b ∈ ([] : List Nat) \/ w.heap.size <= b) (N := fn.ntmps) hv' hn (zcx args) hN (fun _ _ => trivial) (fun b hb => ⟨trivial, Or.inl hb⟩) (fun b hb => ⟨trivial, by
  by_cases hlt : b < w.heap.size
  ·exact Or.inl (Classical.byContradiction fun h => hb ⟨hlt, h⟩)
  ·exact Or.inr (by omega)⟩)
 have hR0 : Rel (fun b => b < w.heap.size /\ b ∉ ([] : List Nat)) fn.ntmps (zfx args) gh { tmps := (⟨vs⟩ : Array Value) ++ Array.replicate (fn.ntmps - vs.length) undef, defers := [] } w := zhr hr hR ⟨rfl, hg⟩
 simp only [Bool.and_eq_true] at hd
 obtain ⟨⟨⟨d1, d2⟩, d3⟩, ⟨d4, d5⟩, d6⟩ := hd
 refine zqk (n := 0) (w0 := w) hs d1 d2 d3 ⟨d4.1, d4.2, d5, d6⟩ (fun σ h => h) ?_ ?_ h hR0 (fun k hk => hk.1) (Bk.refl _ _) hg
 ·rintro e a' w' he ⟨σ', g', h1, h2, h3, h4, h5⟩
  cases e with
  | normal => exact absurd rfl he
  | ret =>
   have hr0 : g'.R0 = RP.of fun b => b ∈ ([] : List Nat) \/ w.heap.size <= b := (Prod.mk.inj h5).2
   obtain ⟨v, r1, us, fp', tp', r2, r3, r4, r5⟩ := qff h2 hr0 fn h1
   show LeavesInM _ _ _ _ _ _ a'.defers .returning w'
   rw [h2.defers]
   exact ⟨v, r1, us, fp', tp', r2, r3, r4, r5, h4⟩
  | exit _ => exact h1.elim
  | goto _ => exact h1.elim
  | panic _ => exact h1.elim
  | outgrown => exact h1.elim
 ·rintro e a' w' ⟨D, n1, a1, σ, g', rfl, h1, h2, h3, h4, h5, h6, h7, h8, h9, h10, h11⟩
  have hk : (e = .normal \/ e = .ret) /\ (zaq (zbr P σ fn.results.toList) (fun vs => qak σ [] vs res) \/ PX P fn.results.toList res σ) := by
   cases e with
   | normal => exact ⟨Or.inl rfl, h1⟩
   | ret => exact ⟨Or.inr rfl, h1⟩
   | exit _ => exact h1.elim
   | goto _ => exact h1.elim
   | panic _ => exact h1.elim
   | outgrown => exact h1.elim
  have q1 := (h2.putObj h6 h9 (.deferred none)).leave (n0 := fun b => b < w.heap.size /\ b ∉ ([] : List Nat)) (A1 := fun _ => True) h8 (fun _ _ => trivial) (fun b hb => ⟨trivial, by
   rw [h11]
   by_cases hlt : b < w.heap.size
   ·exact absurd ⟨hlt, by simp⟩ hb
   ·exact Or.inr (by omega)⟩)
  obtain ⟨v, r1, us, fp', tp', r2, r3, r4, r5⟩ := qff q1 h11 fn hk.2
  have main : LeavesInM (FR none) 0 P fn a1.tmps (fun e w' => ∃ us fp' tp', e = .returned (zbs us) /\ GDs w' res us fp' tp' /\ fp'.Nodup /\ (∀ b ∈ fp', b ∈ ([] : List Nat) \/ w.heap.size <= b) /\ Bk (fun k => k < w.heap.size /\ k ∉ ([] : List Nat)) w w') [{ target := .collected D, args := #[] }] .returning w' :=
   ⟨by simp, Or.inl ⟨D, _, rfl, run_takeDeferred h5, ⟨v, r1, us, fp', tp', r2, r3, r4, r5, h4.trans (Bk.putObj _ h7 _)⟩⟩⟩
  rcases hk.1 with rfl | rfl <;> exact main
end Go.Proofs.YtemnhgmgeijkcaaGreat
namespace Go.Proofs.YtemnhgmgeijkcaaGreat
set_option linter.unusedSimpArgs false
set_option linter.unusedVariables false
set_option linter.unusedSectionVars false
set_option maxRecDepth 4000
open Go.RowKit
variable {P : Program}
def zxy (P : Program) (f f1 : FuncId) : Prop := za3 P f /\ ∀ (a : Option Addr) (len cap : Nat) (w : World), Calls P f #[.slice a len cap] w fun e w' => ∃ ty, e = .returned (.func (.func f1) #[] #[.pointer (some ⟨w.heap.size, 0, none⟩)]) /\ w' = w.alloc (.cells #[.slice a len cap] ty)
def St.callB (σ : St) (d : Nat) (f1 : FuncId) (c : C) : St := { sl := upd σ.sl d (.one (.fn f1 [d])), bx := upd σ.bx d (some [c]), ev := σ.ev }
theorem zyi {o : Oper} {σ : St} {x : Operand} {asg : Array Operand} {ts : Array TypeId} {f f1 : FuncId} {d : Nat} {sz : Nat} {rows : List (List T)} (ho : o.op = .call ⟨.value x, asg, ts⟩) (hd : o.dst = some d)
  (h : zxy P f f1) (hc : zaw (σ.get P 0 x) = some (f, [])) (hv : σ.gets P asg ts = [.one (.rn (.sl sz rows))]) (hb : σ.bx d = none) : zaf P o σ (σ.callB d f1 (.rn (.sl sz rows))) := by
 intro n0 N g a w hR hn hdN
 obtain ⟨vs, h1, h2⟩ := zdo hR ho hc h.1
 rw [hv] at h2
 obtain ⟨v, vs', rfl, k1, k2⟩ := h2
 obtain rfl : vs' = [] := k2
 have k0 : CR σ g w (.rn (.sl sz rows)) v := k1
 simp only [VR, CR] at k1
 unfold zal at k1
 obtain ⟨ao, cap, rfl, _⟩ := k1
 unfold Oper.wp
 rw [h1]
 refine (h.2 ao rows.length cap w).mono ?_
 rintro e w' ⟨ty, rfl, rfl⟩
 refine ⟨{ g with β := upd g.β d w.heap.size }, ?_, Bk.of_alloc hn _, rfl, rfl⟩
 have := (hR.newbox hn hb (cs := [.rn (.sl sz rows)]) (vs := [.slice ao rows.length cap]) ⟨_, _, rfl, k0, rfl⟩ ty).put (some d) (x := .one (.fn f1 [d])) (v := .func (.func f1) #[] #[.pointer (some ⟨w.heap.size, 0, none⟩)]) ⟨by simp [upd], by simp [upd]⟩ (fun i hi => by cases hi; exact hdN d hd)
 rw [hd]
 exact this
section
variable {ks : List Fr} {Q : Exit -> St -> Prop} {σ : St} {ops : Array Oper} {os : List Oper} {ty : TypeId} {ps : String} {af : Array Edge}
theorem callB {d : Nat} {x : Operand} {asg : Array Operand} {ts : Array TypeId} {f f1 : FuncId} {sz : Nat} {rows : List (List T)} (h : zxy P f f1) (hp : zaw (σ.get P 0 x) = some (f, []) /\ σ.gets P asg ts = [.one (.rn (.sl sz rows))] /\ σ.bx d = none)
  (k : exo P ops os ks Q (σ.callB d f1 (.rn (.sl sz rows)))) : exo P ops (⟨some d, .call ⟨.value x, asg, ts⟩, ty, ps, af, none⟩ :: os) ks Q σ :=
 zct rfl rfl (zyi rfl rfl h hp.1 hp.2.1 hp.2.2) k
end
theorem owK_rn (t : T) (A B : Prop) : owK (.one (.rn t)) A B = B := by simp [owK, isOw]
attribute [go_sem] St.callB owK_rn
end Go.Proofs.YtemnhgmgeijkcaaGreat
namespace Go.Proofs.YtemnhgmgeijkcaaGreat
set_option linter.unusedSimpArgs false
set_option linter.unusedVariables false
set_option linter.unusedSectionVars false
set_option maxRecDepth 4000
open Go.RowKit
variable {P : Program}
mutual
def GrT (w : World) : T -> T -> List Nat -> Prop
 | .vs a l c, y, ex => zax w y (.slice a l c) ex
 | .sl sz rows, y, ex => ∃ rows', y = .sl sz rows' /\ zb1 w rows rows' ex
 | x, y, ex => y = x /\ ex = []
def zb1 (w : World) : List (List T) -> List (List T) -> List Nat -> Prop
 | [], ys, ex => ys = [] /\ ex = []
 | r :: rs, ys, ex => ∃ r' rs' e1 e2, ys = r' :: rs' /\ ex = e1 ++ e2 /\ zib w r r' e1 /\ zb1 w rs rs' e2
def zib (w : World) : List T -> List T -> List Nat -> Prop
 | [], ys, ex => ys = [] /\ ex = []
 | c :: cs, ys, ex => ∃ c' cs' e1 e2, ys = c' :: cs' /\ ex = e1 ++ e2 /\ GrT w c c' e1 /\ zib w cs cs' e2
end
theorem zb1.len {w : World} : ∀ {rs ys : List (List T)} {ex : List Nat}, zb1 w rs ys ex -> ys.length = rs.length
 | [], ys, ex, h => by unfold zb1 at h; rw [h.1]
 | r :: rs, ys, ex, h => by
  unfold zb1 at h
  obtain ⟨r', rs', e1, e2, rfl, _, _, h2⟩ := h
  simp [h2.len]
theorem zib.len {w : World} : ∀ {rs ys : List T} {ex : List Nat}, zib w rs ys ex -> ys.length = rs.length
 | [], ys, ex, h => by unfold zib at h; rw [h.1]
 | r :: rs, ys, ex, h => by
  unfold zib at h
  obtain ⟨r', rs', e1, e2, rfl, _, _, h2⟩ := h
  simp [h2.len]
theorem qig {f1 f2 e1 e2 g1 g2 : List Nat} (h : g1.Perm (f1 ++ e1)) (k : g2.Perm (f2 ++ e2)) : (g1 ++ g2).Perm ((f1 ++ f2) ++ (e1 ++ e2)) := by
 refine (h.append k).trans ?_
 rw [List.append_assoc, List.append_assoc]
 refine List.Perm.append_left f1 ?_
 rw [<- List.append_assoc, <- List.append_assoc]
 exact List.Perm.append_right e2 List.perm_append_comm
mutual
theorem GrT.own {w : World} : ∀ (x y : T) (v : Value) (fp ex : List Nat), zax w x v fp -> GrT w x y ex -> ∃ fp', zax w y v fp' /\ fp'.Perm (fp ++ ex)
 | .vs a l c, y, v, fp, ex, h, hg => by
  unfold GrT at hg
  unfold zax at h
  obtain ⟨rfl, rfl⟩ := h
  exact ⟨ex, hg, List.Perm.refl _⟩
 | .sl sz rows, y, v, fp, ex, h, hg => by
  unfold GrT at hg
  obtain ⟨rows', rfl, hg⟩ := hg
  unfold zax at h
  obtain ⟨ao, cap, h1, h2, h3, h4⟩ := h
  rcases h4 with ⟨rfl, rfl, rfl, rfl⟩ | ⟨b, cells, ty, fps, h4, rfl, h6, h7, h8⟩
  ·unfold zb1 at hg
   obtain ⟨rfl, rfl⟩ := hg
   exact ⟨[], by unfold zax; exact ⟨none, 0, h1, h2, h3, Or.inl ⟨rfl, rfl, rfl, rfl⟩⟩, List.Perm.refl _⟩
  ·obtain ⟨fps', k1, k2⟩ := zb1.own cells 0 sz rows rows' fps ex h8 hg
   refine ⟨b :: fps', ?_, List.Perm.cons b k2⟩
   unfold zax
   exact ⟨ao, cap, by rw [hg.len]; exact h1, by rw [hg.len]; exact h2, h3, Or.inr ⟨b, cells, ty, fps', h4, rfl, h6, h7, k1⟩⟩
 | .int _ _, y, v, fp, ex, h, hg => by unfold GrT at hg; obtain ⟨rfl, rfl⟩ := hg; exact ⟨fp, h, by simp⟩
 | .bool _, y, v, fp, ex, h, hg => by unfold GrT at hg; obtain ⟨rfl, rfl⟩ := hg; exact ⟨fp, h, by simp⟩
 | .str _, y, v, fp, ex, h, hg => by unfold GrT at hg; obtain ⟨rfl, rfl⟩ := hg; exact ⟨fp, h, by simp⟩
 | .ptr _, y, v, fp, ex, h, hg => by unfold GrT at hg; obtain ⟨rfl, rfl⟩ := hg; exact ⟨fp, h, by simp⟩
 | .fn _ _, y, v, fp, ex, h, hg => by unfold GrT at hg; obtain ⟨rfl, rfl⟩ := hg; exact ⟨fp, h, by simp⟩
 | .mp _ _, y, v, fp, ex, h, hg => by unfold GrT at hg; obtain ⟨rfl, rfl⟩ := hg; exact ⟨fp, h, by simp⟩
 | .pin _ _, y, v, fp, ex, h, hg => by unfold GrT at hg; obtain ⟨rfl, rfl⟩ := hg; exact ⟨fp, h, by simp⟩
theorem zb1.own {w : World} (cells : Array Value) : ∀ (o sz : Nat) (rs ys : List (List T)) (fps ex : List Nat), zak w cells o sz rs fps -> zb1 w rs ys ex -> ∃ fps', zak w cells o sz ys fps' /\ fps'.Perm (fps ++ ex)
 | _, _, [], ys, fps, ex, h, hg => by unfold zb1 at hg; obtain ⟨rfl, rfl⟩ := hg; exact ⟨fps, h, by simp⟩
 | o, sz, r :: rs, ys, fps, ex, h, hg => by
  unfold zb1 at hg
  obtain ⟨r', rs', e1, e2, rfl, rfl, g1, g2⟩ := hg
  unfold zak at h
  obtain ⟨h1, f1, f2, rfl, h2, h3⟩ := h
  obtain ⟨f1', k1, k2⟩ := zib.own cells o r r' f1 e1 h2 g1
  obtain ⟨f2', l1, l2⟩ := zb1.own cells (o + sz) sz rs rs' f2 e2 h3 g2
  refine ⟨f1' ++ f2', ?_, qig k2 l2⟩
  unfold zak
  exact ⟨by rw [g1.len]; exact h1, f1', f2', rfl, k1, l1⟩
theorem zib.own {w : World} (cells : Array Value) : ∀ (o : Nat) (cs ys : List T) (fps ex : List Nat), zbg w cells o cs fps -> zib w cs ys ex -> ∃ fps', zbg w cells o ys fps' /\ fps'.Perm (fps ++ ex)
 | _, [], ys, fps, ex, h, hg => by unfold zib at hg; obtain ⟨rfl, rfl⟩ := hg; exact ⟨fps, h, by simp⟩
 | o, c :: cs, ys, fps, ex, h, hg => by
  unfold zib at hg
  obtain ⟨c', cs', e1, e2, rfl, rfl, g1, g2⟩ := hg
  unfold zbg at h
  obtain ⟨v, f1, f2, h1, rfl, h2, h3⟩ := h
  obtain ⟨f1', k1, k2⟩ := GrT.own c c' v f1 e1 h2 g1
  obtain ⟨f2', l1, l2⟩ := zib.own cells (o + 1) cs cs' f2 e2 h3 g2
  refine ⟨f1' ++ f2', ?_, qig k2 l2⟩
  unfold zbg
  exact ⟨v, f1', f2', h1, rfl, k1, l1⟩
end
theorem zib.ownG {w : World} : ∀ (cs ys : List T) (vs : List Value) (fp ex tp : List Nat), zrb w cs vs fp tp -> zib w cs ys ex -> ∃ fp' tp', zrb w ys vs fp' tp' /\ fp'.Perm (fp ++ ex)
 | [], ys, vs, fp, ex, tp, h, hg => by unfold zib at hg; obtain ⟨rfl, rfl⟩ := hg; exact ⟨fp, tp, h, by simp⟩
 | c :: cs, ys, vs, fp, ex, tp, h, hg => by
  unfold zib at hg
  obtain ⟨c', cs', e1, e2, rfl, rfl, g1, g2⟩ := hg
  obtain ⟨v, vs', f1, f2, t2, rfl, rfl, rfl, h2, h3⟩ := h
  obtain ⟨f1', k1, k2⟩ := GrT.own c c' v f1 e1 h2 g1
  obtain ⟨f2', t2', l1, l2⟩ := zib.ownG cs cs' vs' f2 e2 t2 h3 g2
  exact ⟨f1' ++ f2', zhy c' f1' ++ t2', ⟨v, vs', f1', f2', t2', rfl, rfl, rfl, k1, l1⟩, qig k2 l2⟩
def GrD (w : World) : D -> D -> List Nat -> Prop
 | .one x, .one y, ex => GrT w x y ex
 | .agg xs, .agg ys, ex => zib w xs ys ex
 | _, _, _ => False
theorem GrD.own {w : World} {x y : D} {v : Value} {fp ex tp : List Nat} (h : GD w x v fp tp) (hg : GrD w x y ex) : ∃ fp' tp', GD w y v fp' tp' /\ fp'.Perm (fp ++ ex) := by
 cases x with
 | one x =>
  cases y with
  | one y => obtain ⟨fp', h1, h2⟩ := GrT.own x y v fp ex h.1 hg; exact ⟨fp', _, ⟨h1, rfl⟩, h2⟩
  | agg _ => exact hg.elim
 | agg xs =>
  cases y with
  | one _ => exact hg.elim
  | agg ys => obtain ⟨a, rfl, h⟩ := h; obtain ⟨fp', tp', h1, h2⟩ := zib.ownG xs ys a fp ex tp h hg; exact ⟨fp', tp', ⟨a, rfl, h1⟩, h2⟩
theorem zoq {f : FuncId} {args : List (Bool × D)} {y : D} (hc : za3 P f)
  (h : ∀ (w : World) (vs : List Value) (fp tp : List Nat), za0 w (fun b => b < w.heap.size /\ b ∉ fp) args vs fp tp -> fp.Nodup -> ∃ (args' : List D) (x : D) (ex : List Nat), FC P f args' [x] /\ zba w (fun b => b < w.heap.size) args' vs ∧
   ex.Nodup /\ (∀ b ∈ ex, b ∈ fp /\ b < w.heap.size) /\ ∀ w' : World, (∀ b ∈ ex, w'.heap[b]? = w.heap[b]?) -> GrD w' x y ex) : GC P f args [y] := by
 refine ⟨hc, fun w vs fp tp hv hn => ?_⟩
 obtain ⟨args', x, ex, hf, hr, hen, hlt, hg⟩ := h w vs fp tp hv hn
 have ha : za0 w (fun b => b < w.heap.size /\ b ∉ ([] : List Nat)) (rd args') vs [] [] := by
  clear hf hg hv
  induction args' generalizing vs with
  | nil => exact ⟨hr, rfl, rfl⟩
  | cons d ds ih =>
   obtain ⟨v, vs', rfl, h1, h2⟩ := hr
   refine ⟨v, vs', rfl, ?_, ih _ h2⟩
   have : zba w (fun b => b < w.heap.size /\ b ∉ ([] : List Nat)) [d] [v] := zba.keep (fun _ _ => rfl) (fun b hb => ⟨hb, by simp⟩) (⟨v, [], rfl, h1, rfl⟩ : zba w (fun b => b < w.heap.size) [d] [v])
   obtain ⟨_, _, e, h3, _⟩ := this
   cases e; exact h3
 refine (hf.2 w vs [] [] ha List.nodup_nil).mono ?_
 rintro e w' ⟨us, fp', tp', rfl, k1, k2, k3, k4⟩
 obtain ⟨u, us', f1, f2, t1, t2, rfl, rfl, rfl, k5, k6⟩ := k1
 obtain ⟨rfl, rfl, rfl⟩ := k6
 obtain ⟨fp'', tp'', l1, l2⟩ := GrD.own k5 (hg w' fun b hb => k4.block b ⟨(hlt b hb).2, by simp⟩)
 have hnew : ∀ b ∈ f1, w.heap.size <= b := fun b hb => by simpa using k3 b (by simpa using hb)
 refine ⟨[u], fp'', tp'', rfl, ⟨u, [], fp'', [], tp'', [], rfl, by simp, by simp, l1, rfl, rfl, rfl⟩, ?_, fun b hb => ?_, ⟨k4.os, k4.tape, k4.output, k4.size, fun k hk => k4.block k ⟨hk.1, by simp⟩⟩⟩
 ·refine l2.nodup_iff.2 (List.nodup_append.2 ⟨by simpa using k2, hen, fun a ha b hb e => ?_⟩)
  subst e
  have := hnew a ha; have := (hlt a hb).2; omega
 ·rcases List.mem_append.1 (l2.mem_iff.1 hb) with hb | hb
  ·exact Or.inr (hnew b hb)
  ·exact Or.inl (hlt b hb).1
def zyk (f : Nat -> V) : List Nat -> Prop
 | [] => True
 | i :: is => f i = .one .any /\ zyk f is
theorem zjx {f : Nat -> V} : ∀ {l : List Nat}, zyk f l -> ∀ i ∈ l, f i = .one .any
 | [], _, i, hi => by simp at hi
 | j :: l, h, i, hi => by
  rcases List.mem_cons.1 hi with rfl | hi
  ·exact h.1
  ·exact zjx h.2 i hi
def RdB (P : Program) (bd : Code) (σ' : St) (e : Exit) (σ : St) : Prop := match e with
 | .normal => ex P bd [] (fun e σ => match e with | .normal => Wk σ σ' | _ => False) σ
 | _ => False
theorem loopB {N t p1 p2 : Nat} {asg bd q : Code} {Q : Exit -> St -> Prop} {σ : St} {F1 : FuncId} {ag : Bool} {sz : Nat} (hB : zqt P F1 ag sz) (hc : za3 P F1) (id : Nat) (H : Nat -> St) (rows : List (List T)) (h1 : (decide (p1 < N) && decide (p2 < N) && decide (t < 1000000)) = true) (h2 : (ag || sz == 1) = true)
  (h3 : ∀ k, (H k).sl t = .one (.fn F1 [id]) /\ (H k).bx id = some [.rn (.sl sz rows)]) (h4 : ∀ k, zyk (H k).sl (p1 :: p2 :: (zdj asg ++ zdj bd))) (h6 : Wk σ (H 0))
  (h5 : ∀ k, k < rows.length -> ex P asg [] (RdB P bd (H (k + 1))) (((H k).put (some p1) (.one (.t (.int .i64 ((rows.length - 1 - k : Nat) : Int))))).put (some p2) (qfu ag (rows.getD (rows.length - 1 - k) []))))
  (h7 : ex P q [] Q (H rows.length)) : zt4 P N (.tmp t) #[p1, p2] asg bd q Q σ := by
 simp only [Bool.and_eq_true, decide_eq_true_eq, Bool.or_eq_true, beq_iff_eq] at h1 h2
 refine ⟨F1, ag, sz, t, p1, p2, id, H, rows, rfl, rfl, hB, hc, ⟨h1.1.1, h1.1.2, h1.2⟩, h2, h3, fun k => zjx (h4 k), fun k hk => ?_, h6, h7⟩
 refine zb3 (fun e σ2 h => ?_) (h5 k hk)
 cases e with
 | normal =>
  refine ⟨rfl, zb3 (fun e σ3 h => ?_) h⟩
  cases e with
  | normal => exact ⟨rfl, h⟩
  | exit _ => exact (show False from h).elim
  | goto _ => exact (show False from h).elim
  | ret => exact (show False from h).elim
  | panic _ => exact (show False from h).elim
  | outgrown => exact (show False from h).elim
 | exit _ => exact (show False from h).elim
 | goto _ => exact (show False from h).elim
 | ret => exact (show False from h).elim
 | panic _ => exact (show False from h).elim
 | outgrown => exact (show False from h).elim
def HdB (P : Program) (fn : Func) (res : List D) (g : Operand) (ps : Array Tmp) (asg bd q : Code) (e : Exit) (σ : St) : Prop := match e with
 | .normal => zt4 P fn.ntmps g ps asg bd q (PS P fn.results.toList res) σ
 | .ret => PS P fn.results.toList res .ret σ
 | _ => False
theorem zt8 (fn : Func) (res : List D) (g : Operand) (ps : Array Tmp) (asg bd q : Code) (σ : St) : HdB P fn res g ps asg bd q .normal σ = zt4 P fn.ntmps g ps asg bd q (PS P fn.results.toList res) σ := rfl
theorem qf9 (fn : Func) (res : List D) (g : Operand) (ps : Array Tmp) (asg bd q : Code) (σ : St) : HdB P fn res g ps asg bd q .ret σ = PS P fn.results.toList res .ret σ := rfl
theorem ztq (bd : Code) (σ' σ : St) : RdB P bd σ' .normal σ = ex P bd [] (fun e σ => match e with | .normal => Wk σ σ' | _ => False) σ := rfl
theorem zvi {f : FuncId} {fn : Func} {c p q asg bd : Code} {g : Operand} {ps : Array Tmp} {args res : List D} (hc : za3 P f) (hf : P.funcs[f]? = some fn) (hb : fn.body = some c) (hs : zdp c = some (p, (g, ps, asg, bd), q))
  (hd : (zbb fn.ntmps p && zbb fn.ntmps q && zby q && (zby asg && zby bd && zbb fn.ntmps asg && zbb fn.ntmps bd)) = true) (hN : (rd args).length <= fn.ntmps)
  (h : ex P p [] (HdB P fn res g ps asg bd q) (zfx args)) : FC P f args res :=
 FC_ofB hc hf hb hs hd hN (zb3 (fun e σ h => by cases e <;> exact h) h)
attribute [go_sem] zt8 qf9 ztq
end Go.Proofs.YtemnhgmgeijkcaaGreat
namespace Go.Proofs.YtemnhgmgeijkcaaGreat
set_option linter.unusedSimpArgs false
set_option linter.unusedVariables false
set_option linter.unusedSectionVars false
set_option maxRecDepth 4000
open Go.RowKit
variable {P : Program}
def swp (a b e : Nat) : Nat := if e = a then b else if e = b then a else e
theorem zc1 (a b e : Nat) : swp a b (swp a b e) = e := by unfold swp; split <;> (try split) <;> (try split) <;> omega
def C.ren (a b : Nat) : C -> C
 | .ow e g => .ow (swp a b e) g
 | .eo e g sz i o => .eo (swp a b e) g sz i o
 | c => c
def V.ren (a b : Nat) : V -> V
 | .one c => .one (c.ren a b)
 | .agg cs => .agg (cs.map (C.ren a b))
 | .tup xs => .tup (xs.map fun x => (x.1, x.2.map (C.ren a b)))
def St.ren (σ : St) (a b : Nat) : St := ⟨fun i => (σ.sl i).ren a b, fun k => (σ.bx k).map (·.map (C.ren a b)), fun e => σ.ev (swp a b e)⟩
def Gh.ren (g : Gh) (a b : Nat) : Gh := { g with ψ := fun e => g.ψ (swp a b e), φ := fun e => g.φ (swp a b e) }
theorem zgx {σ : St} {a b k : Nat} : (σ.ren a b).bx k ≠ none ↔ σ.bx k ≠ none := by unfold St.ren; simp
theorem zvn {σ : St} {a b e n : Nat} (h : σ.has e n) : (σ.ren a b).has (swp a b e) n := by
 obtain ⟨x, h1, h2⟩ := h
 exact ⟨x, by show σ.ev (swp a b (swp a b e)) = _; rw [zc1]; exact h1, h2⟩
theorem zpj {σ : St} {g : Gh} {w : World} {a b : Nat} : Fix (σ.ren a b) (g.ren a b) w = Fix σ g w := by
 funext q
 refine propext ⟨fun h => ⟨fun k hk => h.1 k (zgx.2 hk), fun e x he ho => ?_, h.2.2⟩, fun h => ⟨fun k hk => h.1 k (zgx.1 hk), fun e x he ho => h.2.1 (swp a b e) x he ho, h.2.2⟩⟩
 have := h.2.1 (swp a b e) x (by show σ.ev (swp a b (swp a b e)) = _; rw [zc1]; exact he) ho
 have e2 : (g.ren a b).φ (swp a b e) = g.φ e := by show g.φ (swp a b (swp a b e)) = _; rw [zc1]
 rwa [e2] at this
theorem zvq {σ : St} {g : Gh} {w : World} {a b : Nat} : zcg (σ.ren a b) (g.ren a b) w = zcg σ g w := by
 funext q
 unfold zcg
 rw [zpj]
 refine propext ⟨fun h => ⟨h.1, fun e ho hm => h.2 (swp a b e) ?_ ?_⟩, fun h => ⟨h.1, fun e ho hm => h.2 (swp a b e) ho hm⟩⟩
 ·show σ.On (swp a b (swp a b e)); rw [zc1]; exact ho
 ·show q ∈ g.φ (swp a b (swp a b e)); rw [zc1]; exact hm
theorem zw1 {σ : St} {g : Gh} {w : World} {a b : Nat} {c : C} {v : Value} (h : CR σ g w c v) : CR (σ.ren a b) (g.ren a b) w (c.ren a b) v := by
 have hF := zpj (σ := σ) (g := g) (w := w) (a := a) (b := b)
 have hψ : ∀ e, (g.ren a b).ψ (swp a b e) = g.ψ e := fun e => by show g.ψ (swp a b (swp a b e)) = _; rw [zc1]
 cases c with
 | t x => show zal _ _ _ _; rw [hF]; exact h
 | nl s => exact h
 | ow e n => exact ⟨by show v = (g.ren a b).ψ (swp a b e) n; rw [hψ]; exact h.1, zvn h.2⟩
 | bx q o => exact ⟨h.1, zgx.2 h.2⟩
 | el cs o => obtain ⟨q, r, h1, h2, h3⟩ := h; exact ⟨q, r, h1, by rw [hF]; exact h2, by rw [hF]; exact h3⟩
 | eo e s sz i o => obtain ⟨q, n, c, h1, h2, h3, h4⟩ := h; exact ⟨q, n, c, by rw [hψ]; exact h1, h2, h3, zvn h4⟩
 | fn f caps => exact ⟨h.1, fun q hq => zgx.2 (h.2 q hq)⟩
 | cv u => exact h
 | any => trivial
 | rn x => show zal _ _ _ _; rw [zvq]; exact h
 | er cs o => obtain ⟨q, r, h1, h2, h3⟩ := h; exact ⟨q, r, h1, by rw [zvq]; exact h2, by rw [zvq]; exact h3⟩
theorem zku {σ : St} {g : Gh} {w : World} {a b : Nat} : ∀ {cs : List C} {vs : List Value}, CRs σ g w cs vs -> CRs (σ.ren a b) (g.ren a b) w (cs.map (C.ren a b)) vs
 | [], _, h => h
 | c :: cs, _, h => by obtain ⟨v, vs', rfl, h1, h2⟩ := h; exact ⟨v, vs', rfl, zw1 h1, zku h2⟩
theorem zwn {σ : St} {g : Gh} {w : World} {a b : Nat} : ∀ {xs : List (Bool × List C)} {vs : List Value}, CRt σ g w xs vs -> CRt (σ.ren a b) (g.ren a b) w (xs.map fun x => (x.1, x.2.map (C.ren a b))) vs
 | [], _, h => h
 | x :: xs, _, h => by
  obtain ⟨v, vs', rfl, h1, h2⟩ := h
  refine ⟨v, vs', rfl, ?_, zwn h2⟩
  unfold CRx at h1 ⊢
  split at h1
  ·rw [if_pos ‹_›]; obtain ⟨q, h3, h4⟩ := h1; exact ⟨q, h3, zku h4⟩
  ·rw [if_neg ‹_›]; obtain ⟨c, h3, h4⟩ := h1; exact ⟨c.ren a b, by simp [h3], zw1 h4⟩
theorem vr_ren {σ : St} {g : Gh} {w : World} {a b : Nat} {x : V} {v : Value} (h : VR σ g w x v) : VR (σ.ren a b) (g.ren a b) w (x.ren a b) v := by
 cases x with
 | one c => exact zw1 h
 | agg cs => obtain ⟨q, h1, h2⟩ := h; exact ⟨q, h1, zku h2⟩
 | tup xs => obtain ⟨q, h1, h2⟩ := h; exact ⟨q, h1, zwn h2⟩
theorem zjh {σ : St} {a b e : Nat} (h : (σ.ren a b).On e) : σ.On (swp a b e) := h
theorem Rel.ren {n0 : Nat -> Prop} {N : Nat} {σ : St} {g : Gh} {ac : Act} {w : World} (h : Rel n0 N σ g ac w) (a b : Nat) : Rel n0 N (σ.ren a b) (g.ren a b) ac w := by
 have hF := zpj (σ := σ) (g := g) (w := w) (a := a) (b := b)
 refine ⟨h.defers, h.size, h.anew, fun i => vr_ren (h.slots i), fun k cs hk => ?_, fun k hk => h.base k (zgx.1 hk), fun k k' h1 h2 => h.inj k k' (zgx.1 h1) (zgx.1 h2), fun e x he ho => ?_, fun e x he ho => ?_, fun e n => h.slc (swp a b e) n, fun e he => h.ebase _ (zjh he), fun e he => h.etop _ (zjh he), fun e he => h.nodup _ (zjh he), fun e e' he he' hne => h.apart _ _ (zjh he) (zjh he') (fun k => hne (by rw [<- zc1 a b e, k, zc1])), fun e k he hk => h.ebx _ k (zjh he) (zgx.1 hk)⟩
 ·obtain ⟨cs0, h1, rfl⟩ := Option.map_eq_some_iff.1 hk
  obtain ⟨vs, ty, k1, k2⟩ := h.boxes k cs0 h1
  exact ⟨vs, ty, k1, zku k2⟩
 ·rw [hF]; exact h.evs (swp a b e) x he ho
 ·rw [hF]; exact h.offs (swp a b e) x he ho
theorem zry (a b : Nat) : ∀ (l : List (Nat × V)) (i : Nat), (zi8 l i).ren a b = zi8 (l.map fun p => (p.1, p.2.ren a b)) i
 | [], i => rfl
 | (j, v) :: l, i => by
  simp only [List.map_cons, zi8]
  split
  ·rfl
  ·exact zry a b l i
theorem zwh {α β : Type} (f : α -> β) : ∀ (l : List (Nat × α)) (i : Nat), (tbl l i).map f = tbl (l.map fun p => (p.1, f p.2)) i
 | [], i => rfl
 | (j, v) :: l, i => by
  simp only [List.map_cons, tbl]
  split
  ·rfl
  ·exact zwh f l i
theorem zzp {α : Type} (a b : Nat) : ∀ (l : List (Nat × α)) (i : Nat), tbl l (swp a b i) = tbl (l.map fun p => (swp a b p.1, p.2)) i
 | [], i => rfl
 | (j, v) :: l, i => by
  simp only [List.map_cons, tbl]
  by_cases h : swp a b i = j
  ·rw [if_pos h, if_pos (by rw [<- h, zc1])]
  ·rw [if_neg h, if_neg (fun e => h (by rw [e, zc1]))]
   exact zzp a b l i
theorem znn (a b : Nat) (l : List (Nat × V)) (bl : List (Nat × List C)) (el : List (Nat × Ev)) : Wk (hd l bl el) (hd (l.map fun p => (p.1, p.2.ren a b)) (bl.map fun p => (p.1, p.2.map (C.ren a b))) (el.map fun p => (swp a b p.1, p.2))) := fun n0 N g ac w hR => by
 have e : (hd l bl el).ren a b = hd (l.map fun p => (p.1, p.2.ren a b)) (bl.map fun p => (p.1, p.2.map (C.ren a b))) (el.map fun p => (swp a b p.1, p.2)) := by
  unfold hd St.ren
  simp only [St.mk.injEq]
  exact ⟨funext fun i => zry a b l i, funext fun k => zwh _ bl k, funext fun e => zzp a b el e⟩
 exact ⟨g.ren a b, e ▸ hR.ren a b, rfl, rfl⟩
end Go.Proofs.YtemnhgmgeijkcaaGreat
namespace Go.Proofs.YtemnhgmgeijkcaaGreat
set_option linter.unusedSimpArgs false
set_option linter.unusedVariables false
set_option linter.unusedSectionVars false
set_option maxRecDepth 4000
open Go.RowKit
variable {P : Program}
def C.evs : C -> List Nat
 | .ow e _ => [e]
 | .eo e _ _ _ _ => [e]
 | _ => []
def C.bxs : C -> List Nat
 | .bx b _ => [b]
 | .fn _ caps => caps
 | _ => []
def V.alls : V -> List C
 | .one c => [c]
 | .agg cs => cs
 | .tup xs => xs.flatMap (·.2)
def ins (x : Nat) : List Nat -> List Nat
 | [] => [x]
 | y :: l => if x = y then y :: l else y :: ins x l
def zja : List Nat -> List Nat -> List Nat
 | [], l => l
 | x :: xs, l => zja xs (ins x l)
def noK (x : Nat) : List Nat -> Bool
 | [] => true
 | y :: l => if x = y then false else noK x l
def dif (l : List Nat) : List Nat -> List Nat
 | [] => []
 | x :: xs => if noK x l = true then x :: dif l xs else dif l xs
def qa0 : List C -> List Nat
 | [] => []
 | c :: cs => c.bxs ++ qa0 cs
def qa8 : List C -> List Nat
 | [] => []
 | c :: cs => c.evs ++ qa8 cs
def St.kb0 (σ : St) : List Nat -> List Nat
 | [] => []
 | i :: L => zja (qa0 (σ.sl i).alls) (σ.kb0 L)
def St.kb1 (σ : St) : List Nat -> List Nat
 | [] => []
 | b :: B => zja (b :: qa0 ((σ.bx b).getD [])) (σ.kb1 B)
def St.KB (σ : St) (L : List Nat) : List Nat := σ.kb1 (σ.kb0 L)
def St.ke0 (σ : St) : List Nat -> List Nat
 | [] => []
 | i :: L => zja (qa8 (σ.sl i).alls) (σ.ke0 L)
def St.ke1 (σ : St) (l : List Nat) : List Nat -> List Nat
 | [] => l
 | b :: B => zja (qa8 ((σ.bx b).getD [])) (σ.ke1 l B)
def St.KE (σ : St) (L : List Nat) : List Nat := σ.ke1 (σ.ke0 L) (σ.KB L)
def St.lL (σ : St) (L : List Nat) : List (Nat × V) := L.map fun i => (i, σ.sl i)
def St.lB (σ : St) (B : List Nat) : List (Nat × List C) := B.map fun b => (b, (σ.bx b).getD [])
def St.lE (σ : St) (E : List Nat) : List (Nat × Ev) := E.map fun e => (e, (σ.ev e).getD ⟨false, 0, [], 0, false⟩)
def St.hL (σ : St) (L : List Nat) : St := hd (σ.lL L) (σ.lB (σ.KB L)) (σ.lE (σ.KE L))
section
variable {ks : List Fr} {Q : Exit -> St -> Prop} {σ : St} {ops : Array Oper} {os : List Oper} {ty : TypeId} {ps : String} {af : Array Edge} {dst : Option Nat} {x : Operand} {asx : Array Operand} {ts : Array TypeId} {f : FuncId}
theorem zcb {d : Nat} {ds : List (Bool × D)} {res : List D} (L A : List Nat) (pl : List (Nat × Nat × Nat)) (h : GC P f ds res)
  (hw : wkL σ (hd (σ.lL A ++ σ.lL L) (σ.lB (dif (σ.KB L) (σ.KB A)) ++ σ.lB (σ.KB L)) (σ.lE (dif (σ.KE L) (σ.KE A)) ++ σ.lE (σ.KE L))) (σ.lL A ++ σ.lL L) /\ wkB σ (hd (σ.lL A ++ σ.lL L) (σ.lB (dif (σ.KB L) (σ.KB A)) ++ σ.lB (σ.KB L)) (σ.lE (dif (σ.KE L) (σ.KE A)) ++ σ.lE (σ.KE L))) (σ.lB (dif (σ.KB L) (σ.KB A)) ++ σ.lB (σ.KB L)) /\ wkE σ (σ.lE (dif (σ.KE L) (σ.KE A)) ++ σ.lE (σ.KE L)))
  (hk : zc5 (σ.lL L) (σ.lL A) /\ zc5 (σ.lB (σ.KB L)) (σ.lB (dif (σ.KB L) (σ.KB A))) /\ zc5 (σ.lE (σ.KE L)) (σ.lE (dif (σ.KE L) (σ.KE A))) /\ okL (σ.hL L) (σ.lL L) /\ okB (σ.hL L) (σ.lB (σ.KB L)) /\ okE (σ.lE (σ.KE L)))
  (hp : zaq (zaw ((hd (σ.lL A ++ σ.lL L) (σ.lB (dif (σ.KB L) (σ.KB A)) ++ σ.lB (σ.KB L)) (σ.lE (dif (σ.KE L) (σ.KE A)) ++ σ.lE (σ.KE L))).get P 0 x)) fun p => p.1 = f /\ gvA (hd (σ.lL A ++ σ.lL L) (σ.lB (dif (σ.KB L) (σ.KB A)) ++ σ.lB (σ.KB L)) (σ.lE (dif (σ.KE L) (σ.KE A)) ++ σ.lE (σ.KE L))) (zon (σ.lE (σ.KE L))) [] pl ((hd (σ.lL A ++ σ.lL L) (σ.lB (dif (σ.KB L) (σ.KB A)) ++ σ.lB (σ.KB L)) (σ.lE (dif (σ.KE L) (σ.KE A)) ++ σ.lE (σ.KE L))).gets P asx ts ++ p.2) ds)
  (hf : zgl d 0 (za2 res) (σ.hL L).ev) (k : exo P ops os ks Q ((σ.hL L).callF d res)) : exo P ops (⟨some d, .call ⟨.value x, asx, ts⟩, ty, ps, af, none⟩ :: os) ks Q σ :=
 callG (σ.lL A) (σ.lL L) _ _ _ _ pl h hw hk hp hf k
theorem qik {σ : St} {g : Gh} {w : World} {d : D} {v : Value} (h : zt6 w (zcg σ g w) d v) : VR σ g w d.toN v := zqq (fun _ h => h) h
theorem zba.vrlN {σ : St} {g : Gh} {w : World} : ∀ {ds : List D} {us : List Value}, zba w (zcg σ g w) ds us -> VRl σ g w (ds.map D.toN) us
 | [], us, h => h
 | d :: ds, us, h => by
  obtain ⟨u, us', rfl, h1, h2⟩ := h
  exact ⟨u, us', rfl, qik h1, zba.vrlN h2⟩
theorem zdq.rep {w : World} {A : Nat -> Prop} : ∀ {ds : List D} {us : List Value} {fp : List Nat}, zdq w ds us fp -> (∀ b ∈ fp, A b) -> zba w A ds us
 | [], us, fp, h, _ => h.1
 | .one t :: ds, us, fp, h, hA => by
  obtain ⟨v, vs', f1, f2, rfl, rfl, h1, h2⟩ := h
  exact ⟨v, vs', rfl, zax.rep t v f1 h1 fun b hb => hA b (by simp [hb]), zdq.rep h2 fun b hb => hA b (by simp [hb])⟩
 | .agg ts :: ds, us, fp, h, hA => by
  obtain ⟨v, vs', f1, f2, rfl, rfl, ⟨y, rfl, h1⟩, h2⟩ := h
  exact ⟨_, vs', rfl, ⟨y, rfl, h1.rep fun b hb => hA b (by simp [hb])⟩, zdq.rep h2 fun b hb => hA b (by simp [hb])⟩
theorem zas.lt {w : World} : ∀ {cs : List T} {vs : List Value} {fps : List Nat}, zas w cs vs fps -> ∀ b ∈ fps, b < w.heap.size
 | [], _, _, h, b, hb => by rw [h.2] at hb; simp at hb
 | c :: cs, _, _, h, b, hb => by
  obtain ⟨v, vs', f1, f2, rfl, rfl, h1, h2⟩ := h
  rcases List.mem_append.1 hb with hb | hb
  ·exact zax.lt c v f1 h1 b hb
  ·exact zas.lt h2 b hb
theorem zdq.ltD {w : World} : ∀ {ds : List D} {us : List Value} {fp : List Nat}, zdq w ds us fp -> ∀ b ∈ fp, b < w.heap.size
 | [], us, fp, h, b, hb => by rw [h.2] at hb; simp at hb
 | .one t :: ds, us, fp, h, b, hb => by
  obtain ⟨v, vs', f1, f2, rfl, rfl, h1, h2⟩ := h
  rcases List.mem_append.1 hb with hb | hb
  ·exact zax.lt t v f1 h1 b hb
  ·exact zdq.ltD h2 b hb
 | .agg ts :: ds, us, fp, h, b, hb => by
  obtain ⟨v, vs', f1, f2, rfl, rfl, ⟨y, rfl, h1⟩, h2⟩ := h
  rcases List.mem_append.1 hb with hb | hb
  ·exact zas.lt h1 b hb
  ·exact zdq.ltD h2 b hb
theorem Rel.frNew {n0 : Nat -> Prop} {N : Nat} {σ : St} {g : Gh} {a : Act} {w w' : World} (hR : Rel n0 N σ g a w) (hn : LtK n0 w) {b : Nat} (h1 : w.heap.size <= b) (h2 : b < w'.heap.size) : zcg σ g w' b := by
 refine ⟨⟨fun k hk e => by have := hR.lt hk; omega, fun e x hx ho hh => ?_, h2, (hR.anew b (hn.new h1)).1⟩, fun e ⟨x, hx, ho⟩ hm => ?_⟩
 ·have := (hR.evs e x hx ho).lt b (List.mem_of_mem_head? hh); omega
 ·have := (hR.evs e x hx ho).lt b hm; omega
def St.callN (σ : St) (d : Option Nat) (res : List D) : St := σ.put d (zus (res.map D.toN))
theorem zzi (res : List D) : ∀ y ∈ res.map D.toN, y.isTup = false := fun y hy => by
 obtain ⟨d, _, rfl⟩ := List.mem_map.1 hy
 cases d <;> rfl
theorem zs1 {o : Oper} {x : Operand} {asx : Array Operand} {ts : Array TypeId} {f : FuncId} {cvs : List V} {ds res : List D} (ho : o.op = .call ⟨.value x, asx, ts⟩)
  (h : FC P f ds res) (hc : zaw (σ.get P 0 x) = some (f, cvs)) (hv : VDs σ (σ.gets P asx ts ++ cvs) ds) : zaf P o σ (σ.callN o.dst res) := by
 intro n0 N g a w hR hn hdN
 obtain ⟨vs, h1, h2⟩ := zdo hR ho hc h.1
 unfold Oper.wp
 rw [h1]
 refine (h.use (VDs.rep hR hv h2)).mono ?_
 rintro e w' ⟨us, fp, rfl, o1, o2, o3, hb⟩
 have hR' : Rel n0 N σ g a w' := hR.after hn hb (New.refl σ g (w.heap.size <= ·) w' hR.slc)
 refine ⟨g, ?_, Bk.of_below hb hn, rfl, rfl⟩
 exact hR'.put o.dst (zfo (zba.vrlN (o1.rep fun b hb' => hR.frNew hn (o3 b hb') (o1.ltD b hb'))) (zzi res)) hdN
theorem zjl {ds res : List D} (h : FC P f ds res) (hp : zaq (zaw (σ.get P 0 x)) fun p => p.1 = f /\ VDs σ (σ.gets P asx ts ++ p.2) ds)
  (k : exo P ops os ks Q (σ.callN dst res)) : exo P ops (⟨dst, .call ⟨.value x, asx, ts⟩, ty, ps, af, none⟩ :: os) ks Q σ := by
 obtain ⟨⟨f', cvs⟩, h1, rfl, h2⟩ := zap hp
 exact zct rfl rfl (zs1 rfl h h1 h2) k
theorem qeq {g : Gh} {w : World} {c : C} {t : T} {v : Value} (h : rdC c t) (hv : CR σ g w c v) : zal w (zcg σ g w) t v := by
 unfold rdC at h
 split at h
 ·rename_i x
  obtain ⟨rfl, hn⟩ := h
  exact ziy (σ := σ) (g := g) (x := .one (.t x)) (d := .one x) ⟨rfl, hn⟩ hv _
 ·rename_i f f'
  subst h
  exact ziy (σ := σ) (g := g) (x := .one (.fn f [])) (d := .one (.fn f [])) rfl hv _
 ·subst h; exact hv
 ·obtain ⟨rfl, rfl⟩ := h
  obtain ⟨b, q, h1, h2, h3⟩ := hv
  unfold zal
  exact ⟨b, q, h1, h2, h3⟩
 ·subst h
  rw [show v = .slice none 0 0 from hv]
  unfold zal
  exact ⟨none, 0, rfl, by simp, by simp, Or.inl rfl⟩
 ·exact h.elim
theorem zxs {g : Gh} {w : World} : ∀ {cs : List C} {ts : List T} {vs : List Value}, rdCs cs ts -> CRs σ g w cs vs -> zad w (zcg σ g w) ts vs
 | [], [], vs, _, hv => by unfold zad; exact hv
 | [], _ :: _, _, h, _ => h.elim
 | _ :: _, [], _, h, _ => h.elim
 | c :: cs, t :: ts, vs, h, hv => by
  obtain ⟨v, vs', rfl, h1, h2⟩ := hv
  unfold zad
  exact ⟨v, vs', rfl, qeq h.1 h1, zxs h.2 h2⟩
theorem qe2 {g : Gh} {w : World} {x : V} {d : D} {v : Value} (h : rdV x d) (hv : VR σ g w x v) : zt6 w (zcg σ g w) d v := by
 unfold rdV at h
 split at h
 ·exact qeq h hv
 ·obtain ⟨b, e, hv⟩ := hv; exact ⟨b, e, zxs h hv⟩
 ·exact h.elim
def qfq : List V -> List D -> Prop
 | [], ds => ds = []
 | v :: vs, ds => ∃ d ds', ds = d :: ds' /\ rdV v d /\ qfq vs ds'
theorem zz9 (v : V) (vs : List V) (d : D) (ds : List D) : qfq (v :: vs) (d :: ds) = (rdV v d /\ qfq vs ds) := by
 refine propext ⟨fun ⟨_, _, e, h⟩ => ?_, fun h => ⟨d, ds, rfl, h⟩⟩
 cases e; exact h
theorem qcj : qfq [] [] = True := by simp [qfq]
theorem zzc {g : Gh} {w : World} : ∀ {xs : List V} {ds : List D}, qfq xs ds -> ∀ {vs : List Value}, VRl σ g w xs vs -> zba w (zcg σ g w) ds vs
 | [], ds, h, vs, hv => by rw [show ds = [] from h]; exact hv
 | x :: xs, ds, h, vs, hv => by
  obtain ⟨d, ds', rfl, h1, h2⟩ := h
  obtain ⟨v, vs', rfl, k1, k2⟩ := hv
  exact ⟨v, vs', rfl, qe2 h1 k1, zzc h2 k2⟩
theorem zs7 {o : Oper} {x : Operand} {asx : Array Operand} {ts : Array TypeId} {f : FuncId} {cvs : List V} {ds res : List D} (ho : o.op = .call ⟨.value x, asx, ts⟩)
  (h : RC P f ds res) (hc : zaw (σ.get P 0 x) = some (f, cvs)) (hv : qfq (σ.gets P asx ts ++ cvs) ds) : zaf P o σ (σ.callN o.dst res) := by
 intro n0 N g a w hR hn hdN
 obtain ⟨vs, h1, h2⟩ := zdo hR ho hc h.1
 unfold Oper.wp
 rw [h1]
 have hargs := (zzc hv h2).keep (A' := fun b => b < w.heap.size /\ zcg σ g w b) (fun _ _ => rfl) fun b hb => ⟨hb.1.2.2.1, hb⟩
 refine (h.2 w vs (zcg σ g w) hargs).mono ?_
 rintro e w' ⟨us, rfl, o1, hb⟩
 have hR' : Rel n0 N σ g a w' := hR.after hn hb (New.refl σ g (w.heap.size <= ·) w' hR.slc)
 refine ⟨g, ?_, Bk.of_below hb hn, rfl, rfl⟩
 refine hR'.put o.dst (zfo (zba.vrlN (o1.keep (fun _ _ => rfl) fun b hb' => ?_)) (zzi res)) hdN
 rcases hb'.2 with hf | hf
 ·exact ⟨⟨hf.1.1, hf.1.2.1, hb'.1, hf.1.2.2.2⟩, hf.2⟩
 ·exact hR.frNew hn hf hb'.1
theorem zu7 {ds res : List D} (h : RC P f ds res) (hp : zaq (zaw (σ.get P 0 x)) fun p => p.1 = f /\ qfq (σ.gets P asx ts ++ p.2) ds)
  (k : exo P ops os ks Q (σ.callN dst res)) : exo P ops (⟨dst, .call ⟨.value x, asx, ts⟩, ty, ps, af, none⟩ :: os) ks Q σ := by
 obtain ⟨⟨f', cvs⟩, h1, rfl, h2⟩ := zap hp
 exact zct rfl rfl (zs7 rfl h h1 h2) k
end
def gVN (k : Nat) : Bool × D -> V
 | (false, d) => d.toN
 | (true, d) => gV k (true, d)
def zf7 : Nat -> List (Bool × D) -> Nat -> V
 | _, [] => fun _ => .one .any
 | k, d :: ds => upd (zf7 (k + 1) ds) k (gVN k d)
def zc4 (args : List (Bool × D)) : St := ⟨zf7 0 args, fun _ => none, zgs 0 args⟩
theorem zh7 : ∀ (ds : List (Bool × D)) (k i : Nat), zf7 k ds (k + i) = match ds[i]? with | some d => gVN (k + i) d | none => .one .any
 | [], k, i => by simp [zf7]
 | d :: ds, k, 0 => by simp [zf7, upd]
 | d :: ds, k, i + 1 => by
  unfold zf7
  rw [zan _ _ (by omega), show k + (i + 1) = k + 1 + i by omega, zh7 ds (k + 1) i]
  simp
theorem za0.atR {w : World} {A : Nat -> Prop} : ∀ {ds : List (Bool × D)} {vs : List Value} {fp tp : List Nat}, za0 w A ds vs fp tp -> ∀ (i : Nat) d, ds[i]? = some (false, d) -> ∃ v, vs[i]? = some v /\ zt6 w A d v
 | [], _, _, _, _, i, d, h => by simp at h
 | (false, e) :: ds, _, _, _, h, 0, d, hi => by
  obtain ⟨v, vs', rfl, h1, _⟩ := h
  simp only [List.getElem?_cons_zero, Option.some.injEq, Prod.mk.injEq, true_and] at hi
  subst hi
  exact ⟨v, rfl, h1⟩
 | (true, e) :: ds, _, _, _, h, 0, d, hi => by simp at hi
 | (false, e) :: ds, _, _, _, h, i + 1, d, hi => by
  obtain ⟨v, vs', rfl, _, h2⟩ := h
  simpa using za0.atR h2 i d (by simpa using hi)
 | (true, e) :: ds, _, _, _, h, i + 1, d, hi => by
  obtain ⟨v, vs', f1, f2, t1, t2, rfl, rfl, rfl, _, h2⟩ := h
  simpa using za0.atR h2 i d (by simpa using hi)
theorem Rel.frOld {n0 : Nat -> Prop} {N : Nat} {σ : St} {g : Gh} {a : Act} {w : World} (h : Rel n0 N σ g a w) {b : Nat} (h1 : n0 b) (h2 : b < w.heap.size) (h3 : g.A0 b) : zcg σ g w b :=
 ⟨⟨fun k hk e => h.base k hk (e ▸ h1), fun e x hx ho hh => h.etop e ⟨x, hx, ho⟩ b (List.mem_of_mem_head? hh) h1, h2, h3⟩, fun e ho hm => h.etop e ho b hm h1⟩
theorem zuo {args : List (Bool × D)} {w : World} {vs : List Value} {fp tp : List Nat} {N : Nat} {g : Gh} {a : Act} (hv : za0 w (fun b => b < w.heap.size /\ b ∉ fp) args vs fp tp) (hR : Rel (fun b => b < w.heap.size /\ b ∉ fp) N (zds args) g a w)
  (ht : a.tmps = (⟨vs⟩ : Array Value) ++ Array.replicate (N - vs.length) undef) (hA : ∀ b, g.A0 b) : Rel (fun b => b < w.heap.size /\ b ∉ fp) N (zc4 args) g a w := by
 have hm : Mv (zds args) (zc4 args) g g w w := Mv.of_eq g w rfl rfl
 refine hR.slots_of (σ' := zc4 args) rfl rfl hR.defers hR.size fun i => ?_
 refine (Mv.of_eq (σ := zc4 args) (σ' := zds args) g w rfl rfl).vr (σ := zc4 args) ?_
 have hi := zh7 args 0 i
 rw [Nat.zero_add] at hi
 show VR _ _ _ (zf7 0 args i) _
 rw [hi]
 cases hd : args[i]? with
 | none => trivial
 | some p =>
  obtain ⟨b, d⟩ := p
  cases b with
  | true =>
   have h0 := hm.vr (hR.slots i)
   have hj := zhn args 0 i
   rw [Nat.zero_add, hd] at hj
   have h0' : VR (zc4 args) g w (ziw 0 args i) (a.tmps.getD i (g.R0.ξ i)) := h0
   rw [hj] at h0'
   exact h0'
  | false =>
   obtain ⟨v, hv1, hv2⟩ := za0.atR hv i d hd
   have hlt : i < vs.length := (List.getElem?_eq_some_iff.1 hv1).1
   have e : a.tmps.getD i (g.R0.ξ i) = v := by
    rw [ht, Array.getD_eq_getD_getElem?, Array.getElem?_append_left (by simpa using hlt)]
    simp [hv1]
   rw [e]
   exact hm.vr (zqq (fun b hb => hR.frOld hb hb.1 (hA b)) hv2)
theorem zjq {f : FuncId} {fn : Func} {c : Code} {args : List (Bool × D)} {res : List D} (hc : za3 P f) (hf : P.funcs[f]? = some fn) (hb : fn.body = some c) (hd : zbb fn.ntmps c = true) (hN : args.length <= fn.ntmps) (hs : zb6 args)
  (h : ex P c [] (PS P fn.results.toList res) (zc4 args)) : GC P f args res :=
 qe4 hc hf hb hd hN hs fun w vs fp tp hv g a hR hg => ⟨_, h, zuo hv hR hg.1 fun b => by rw [(Prod.mk.inj hg.2).1]; trivial⟩
def renL (a b : Nat) (l : List (Nat × V)) : List (Nat × V) := l.map fun p => (p.1, p.2.ren a b)
def renB (a b : Nat) (l : List (Nat × List C)) : List (Nat × List C) := l.map fun p => (p.1, p.2.map (C.ren a b))
def renE (a b : Nat) (l : List (Nat × Ev)) : List (Nat × Ev) := l.map fun p => (swp a b p.1, p.2)
theorem zq6 (a b : Nat) (c : C) : (c.ren a b).ren a b = c := by cases c <;> simp [C.ren, zc1]
theorem zld (a b : Nat) (cs : List C) : (cs.map (C.ren a b)).map (C.ren a b) = cs := by
 rw [List.map_map]; exact (List.map_congr_left fun c _ => zq6 a b c).trans (List.map_id cs)
theorem qbd (a b : Nat) (v : V) : (v.ren a b).ren a b = v := by
 cases v with
 | one c => simp [V.ren, zq6]
 | agg cs => simp only [V.ren, zld]
 | tup xs =>
  simp only [V.ren, List.map_map]
  congr 1
  exact (List.map_congr_left fun x _ => by simp only [Function.comp, zld]; rfl).trans (List.map_id xs)
theorem zcw (a b : Nat) {σ : St} {l : List (Nat × V)} {bl : List (Nat × List C)} {el : List (Nat × Ev)} (h : wkL σ (hd (renL a b l) (renB a b bl) (renE a b el)) (renL a b l) /\ wkB σ (hd (renL a b l) (renB a b bl) (renE a b el)) (renB a b bl) /\ wkE σ (renE a b el)) : Wk σ (hd l bl el) := by
 have h1 := (zac h).trans (znn a b _ _ _)
 have e1 : (renL a b l).map (fun p => (p.1, p.2.ren a b)) = l := by
  unfold renL; rw [List.map_map]; exact (List.map_congr_left fun p _ => by simp only [Function.comp, qbd]; rfl).trans (List.map_id l)
 have e2 : (renB a b bl).map (fun p => (p.1, p.2.map (C.ren a b))) = bl := by
  unfold renB; rw [List.map_map]; exact (List.map_congr_left fun p _ => by simp only [Function.comp, zld]; rfl).trans (List.map_id bl)
 have e3 : (renE a b el).map (fun p => (swp a b p.1, p.2)) = el := by
  unfold renE; rw [List.map_map]; exact (List.map_congr_left fun p _ => by simp only [Function.comp, zc1]; rfl).trans (List.map_id el)
 rw [e1, e2, e3] at h1
 exact h1
attribute [go_sem] C.evs C.bxs V.alls ins zja noK dif qa0 qa8 St.kb0 St.kb1 St.KB St.ke0 St.ke1 St.KE St.lL St.lB St.lE St.hL St.callN qcj zz9 gVN zf7 zc4 renL renB renE C.ren V.ren swp
end Go.Proofs.YtemnhgmgeijkcaaGreat
namespace Go.Proofs.YtemnhgmgeijkcaaGreat
set_option linter.unusedSimpArgs false
set_option linter.unusedVariables false
set_option linter.unusedSectionVars false
set_option maxRecDepth 4000
open Go.RowKit
variable {P : Program}
theorem za0.append {w : World} {A : Nat -> Prop} : ∀ {d1 d2 : List (Bool × D)} {v1 v2 : List Value} {f1 f2 t1 t2 : List Nat}, za0 w A d1 v1 f1 t1 -> za0 w A d2 v2 f2 t2 -> za0 w A (d1 ++ d2) (v1 ++ v2) (f1 ++ f2) (t1 ++ t2)
 | [], _, _, _, _, _, _, _, h, k => by obtain ⟨rfl, rfl, rfl⟩ := h; exact k
 | (true, d) :: ds, _, _, _, _, _, _, _, h, k => by
  obtain ⟨v, vs', g1, g2, s1, s2, rfl, rfl, rfl, h1, h2⟩ := h
  exact ⟨v, _, g1, _, s1, _, rfl, by rw [List.append_assoc], by rw [List.append_assoc], h1, za0.append h2 k⟩
 | (false, d) :: ds, _, _, _, _, _, _, _, h, k => by
  obtain ⟨v, vs', rfl, h1, h2⟩ := h
  exact ⟨v, _, rfl, h1, za0.append h2 k⟩
def zek : List (Bool × D) -> List (Bool × T)
 | [] => []
 | (b, .one t) :: ds => (b, t) :: zek ds
 | (b, .agg ts) :: ds => ts.map (fun t => (b, t)) ++ zek ds
def bxA (box : List (Bool × T)) : List (Bool × D) := box.map fun p => (p.1, .one p.2)
theorem zrb.ones {w : World} {A : Nat -> Prop} : ∀ {ts : List T} {vs : List Value} {fp tp : List Nat}, zrb w ts vs fp tp -> za0 w A (bxA (ts.map fun t => (true, t))) vs fp tp
 | [], _, _, _, h => h
 | t :: ts, _, _, _, h => by
  obtain ⟨v, vs', f1, f2, t2, rfl, rfl, rfl, h1, h2⟩ := h
  exact ⟨v, vs', f1, f2, _, t2, rfl, rfl, rfl, ⟨h1, rfl⟩, zrb.ones h2⟩
theorem zad.ones {w : World} {A : Nat -> Prop} : ∀ {ts : List T} {vs : List Value}, zad w A ts vs -> za0 w A (bxA (ts.map fun t => (false, t))) vs [] []
 | [], _, h => by unfold zad at h; exact ⟨h, rfl, rfl⟩
 | t :: ts, _, h => by
  unfold zad at h
  obtain ⟨v, vs', rfl, h1, h2⟩ := h
  exact ⟨v, vs', rfl, h1, zad.ones h2⟩
theorem zjm (a b : List (Bool × T)) : bxA (a ++ b) = bxA a ++ bxA b := List.map_append
theorem zal.cells1 {w : World} {A : Nat -> Prop} {t : T} {v : Value} (h : zal w A t v) : v.cells = #[v] := (zal.one h).2
theorem za0.flat {w : World} {A : Nat -> Prop} : ∀ {ds : List (Bool × D)} {vs : List Value} {fp tp : List Nat}, za0 w A ds vs fp tp -> ∃ tp', za0 w A (bxA (zek ds)) (vs.flatMap fun u => u.cells.toList) fp tp'
 | [], _, _, _, h => by obtain ⟨rfl, rfl, rfl⟩ := h; exact ⟨[], rfl, rfl, rfl⟩
 | (true, .one t) :: ds, _, _, _, h => by
  obtain ⟨v, vs', f1, f2, t1, t2, rfl, rfl, rfl, h1, h2⟩ := h
  obtain ⟨tp', h2⟩ := za0.flat h2
  have e : (v :: vs').flatMap (fun u => u.cells.toList) = v :: vs'.flatMap fun u => u.cells.toList := by
   have h1' : zax w t v f1 := h1.1
   simp [h1'.one]
  exact ⟨t1 ++ tp', v, _, f1, f2, t1, tp', e, rfl, rfl, h1, h2⟩
 | (false, .one t) :: ds, _, _, _, h => by
  obtain ⟨v, vs', rfl, h1, h2⟩ := h
  obtain ⟨tp', h2⟩ := za0.flat h2
  have e : (v :: vs').flatMap (fun u => u.cells.toList) = v :: vs'.flatMap fun u => u.cells.toList := by
   have h1' : zal w A t v := h1
   simp [h1'.cells1]
  exact ⟨tp', v, _, e, h1, h2⟩
 | (true, .agg ts) :: ds, _, _, _, h => by
  obtain ⟨v, vs', f1, f2, t1, t2, rfl, rfl, rfl, ⟨a, rfl, h1⟩, h2⟩ := h
  obtain ⟨tp', h2⟩ := za0.flat h2
  refine ⟨t1 ++ tp', ?_⟩
  show za0 w A (bxA (ts.map (fun t => (true, t)) ++ zek ds)) (a ++ vs'.flatMap fun u => u.cells.toList) _ _
  rw [zjm]
  exact za0.append h1.ones h2
 | (false, .agg ts) :: ds, _, _, _, h => by
  obtain ⟨v, vs', rfl, ⟨a, rfl, h1⟩, h2⟩ := h
  obtain ⟨tp', h2⟩ := za0.flat h2
  refine ⟨[] ++ tp', ?_⟩
  show za0 w A (bxA (ts.map (fun t => (false, t)) ++ zek ds)) (a ++ vs'.flatMap fun u => u.cells.toList) _ _
  rw [zjm]
  exact za0.append h1.ones h2
def mC1 (d j : Nat) : Bool × T -> C
 | (true, t) => owC d j t
 | (false, t) => t.toN
def mC (d : Nat) : Nat -> List (Bool × T) -> List C
 | _, [] => []
 | j, p :: ts => mC1 d j p :: mC d (j + 1) ts
def mE (d : Nat) : Nat -> List (Bool × T) -> (Nat -> Option Ev) -> (Nat -> Option Ev)
 | _, [], f => f
 | j, (true, t) :: ts, f => mE d (j + 1) ts (zs6 d j f t)
 | j, (false, _) :: ts, f => mE d (j + 1) ts f
def mF (d : Nat) : Nat -> List (Bool × T) -> (Nat -> Option Ev) -> Prop
 | _, [], _ => True
 | j, (true, t) :: ts, f => qd2 d j f t /\ mF d (j + 1) ts (zs6 d j f t)
 | j, (false, _) :: ts, f => mF d (j + 1) ts f
def mD (d : Nat) : Nat -> List (Bool × D) -> List V
 | _, [] => []
 | j, (b, .one t) :: ds => .one (mC1 d j (b, t)) :: mD d (j + 1) ds
 | j, (b, .agg ts) :: ds => .agg (mC d j (ts.map fun t => (b, t))) :: mD d (j + ts.length) ds
theorem zyt (d : Nat) : ∀ (ts : List (Bool × T)) (j : Nat), (mC d j ts).length = ts.length
 | [], _ => rfl
 | t :: ts, j => by simp [mC, zyt d ts]
theorem zho (d : Nat) : ∀ (t1 t2 : List (Bool × T)) (j : Nat), mC d j (t1 ++ t2) = mC d j t1 ++ mC d (j + t1.length) t2
 | [], _, _ => by simp [mC]
 | t :: ts, t2, j => by simp only [List.cons_append, mC, zho d ts t2 (j + 1), List.length_cons]; rw [show j + 1 + ts.length = j + (ts.length + 1) by omega]
theorem zy0 (d : Nat) : ∀ (ds : List (Bool × D)) (j : Nat), ∀ x ∈ mD d j ds, x.isTup = false
 | [], _, x, hx => by simp [mD] at hx
 | (_, .one t) :: ds, j, x, hx => by
  simp only [mD, List.mem_cons] at hx
  rcases hx with rfl | hx
  ·rfl
  ·exact zy0 d ds _ x hx
 | (_, .agg ts) :: ds, j, x, hx => by
  simp only [mD, List.mem_cons] at hx
  rcases hx with rfl | hx
  ·rfl
  ·exact zy0 d ds _ x hx
theorem New.mix {τ : St} {g : Gh} {NB : Nat -> Prop} {w' : World} {A : Nat -> Prop} (d : Nat) : ∀ (ts : List (Bool × T)) (vs : List Value) (fp tp : List Nat) (j : Nat) (ev' : Nat -> Option Ev) (g' : Gh) (F : List Nat), New τ g NB w' ev' g' F -> mF d j ts ev' -> za0 w' A (bxA ts) vs fp tp -> fp.Nodup -> (∀ b ∈ fp, NB b /\ b ∉ F) →
  ∃ g'', New τ g NB w' (mE d j ts ev') g'' (F ++ fp) /\ (∀ e, ev' e ≠ none -> mE d j ts ev' e = ev' e /\ g''.ψ e = g'.ψ e) /\ ∀ (σ' : St) (w'' : World), σ'.ev = mE d j ts ev' -> (∀ t v, zal w' A t v -> zal w'' (zcg σ' g'' w'') t v) -> CRs σ' g'' w'' (mC d j ts) vs
 | [], vs, fp, tp, j, ev', g', F, hN, hf, ho, hd, hb => by
  obtain ⟨rfl, rfl, rfl⟩ := ho
  exact ⟨g', by simpa [mE] using hN, fun e _ => ⟨rfl, rfl⟩, fun _ _ _ _ => rfl⟩
 | (false, t) :: ts, vs, fp, tp, j, ev', g', F, hN, hf, ho, hd, hb => by
  obtain ⟨v, vs', rfl, h1, h2⟩ := ho
  obtain ⟨g'', k1, k2, k3⟩ := New.mix d ts vs' fp tp (j + 1) ev' g' F hN hf h2 hd hb
  exact ⟨g'', k1, k2, fun σ' w'' hσ hr => ⟨v, vs', rfl, zx0 (hr t v h1), k3 σ' w'' hσ hr⟩⟩
 | (true, t) :: ts, vs, fp, tp, j, ev', g', F, hN, hf, ho, hd, hb => by
  obtain ⟨v, vs', f1, f2, t1, t2, rfl, rfl, rfl, ⟨h1, _⟩, h2⟩ := ho
  obtain ⟨hf1, hf2⟩ := hf
  obtain ⟨hd1, hd2, hd3⟩ := List.nodup_append.1 hd
  have h1 : zax w' t v f1 := h1
  by_cases hfl : t.flat = true
  ·have hz : f1 = [] /\ owC d j t = .t t /\ zs6 d j ev' t = ev' /\ ∀ (σ' : St) (g'' : Gh) (w'' : World), CR σ' g'' w'' (.t t) v := by
    cases t <;> simp only [T.flat, Bool.false_eq_true] at hfl
    ·unfold zax at h1; exact ⟨h1.2.2.2, rfl, rfl, fun _ _ _ => by simp only [CR, zal]; exact ⟨h1.1, h1.2.1, h1.2.2.1⟩⟩
    ·unfold zax at h1; exact ⟨h1.2, rfl, rfl, fun _ _ _ => by simp only [CR, zal]; exact h1.1⟩
    ·unfold zax at h1; exact ⟨h1.2.2, rfl, rfl, fun _ _ _ => by simp only [CR, zal]; exact ⟨h1.1, h1.2.1⟩⟩
    ·unfold zax at h1; exact ⟨h1.2, rfl, rfl, fun _ _ _ => by simp only [CR, zal]; exact h1.1⟩
   obtain ⟨rfl, c2, c3, c4⟩ := hz
   rw [c3] at hf2
   obtain ⟨g'', k1, k2, k3⟩ := New.mix d ts vs' f2 t2 (j + 1) ev' g' F hN hf2 h2 hd2 (fun b hb' => hb b (by simp [hb']))
   refine ⟨g'', by simpa [mE, c3] using k1, fun e he => by simpa [mE, c3] using k2 e he, fun σ' w'' hσ hr => ⟨v, vs', rfl, ?_, k3 σ' w'' (by simpa [mE, c3] using hσ) hr⟩⟩
   show CR σ' g'' w'' (owC d j t) v
   rw [c2]; exact c4 _ _ _
  ·cases t <;> simp only [T.flat, Bool.false_eq_true, not_false_eq_true, not_true] at hfl
   ·rename_i sz rows
    have hi' : ev' (d * 32 + j) = none := hf1
    have hi : τ.ev (d * 32 + j) = none := by
     cases hx : τ.ev (d * 32 + j) with
     | none => rfl
     | some x => have := (hN.old (d * 32 + j) (by rw [hx]; simp)).1; rw [hi', hx] at this; cases this
    have hadd := hN.add hi hi' h1 (fun b hb' => (hb b (by simp [hb'])).1) hd1 (fun b hb' => (hb b (by simp [hb'])).2)
    obtain ⟨g'', k1, k2, k3⟩ := New.mix d ts vs' f2 t2 (j + 1) _ _ _ hadd hf2 h2 hd2 (fun b hb' => ⟨(hb b (by simp [hb'])).1, by
      have := (hb b (by simp [hb'])).2
      simp only [List.mem_append, not_or]
      exact ⟨this, fun hf => hd3 b hf b hb' rfl⟩⟩)
    refine ⟨g'', by simpa [mE, zs6] using k1, fun e he => ?_, fun σ' w'' hσ hr => ⟨v, vs', rfl, ?_, k3 σ' w'' hσ hr⟩⟩
    ·have hne : e ≠ d * 32 + j := fun h => he (h ▸ hi')
     have := k2 e (by rw [zan _ _ hne]; exact he)
     simp only [zan _ _ hne] at this
     exact this
    ·have := k2 (d * 32 + j) (by rw [zai]; simp)
     simp only [zai] at this
     exact ⟨by rw [this.2], _, by rw [hσ]; exact this.1, Nat.zero_le _⟩
   ·unfold zax at h1; exact h1.elim
   ·unfold zax at h1; exact h1.elim
   ·unfold zax at h1; exact h1.elim
   ·exact (show False from hf1).elim
theorem zwr {σ : St} {g : Gh} {w w1 : World} {A : Nat -> Prop} (d : Nat) : ∀ {ds : List (Bool × D)} {us : List Value} {fp tp : List Nat} (j : Nat), za0 w1 A ds us fp tp -> CRs σ g w (mC d j (zek ds)) (us.flatMap fun u => u.cells.toList) -> VRl σ g w (mD d j ds) us
 | [], us, fp, tp, j, h, _ => h.1
 | (true, .one t) :: ds, us, fp, tp, j, h, k => by
  obtain ⟨v, vs', f1, f2, t1, t2, rfl, rfl, rfl, h1, h2⟩ := h
  have hv : zax w1 t v f1 := h1.1
  simp only [List.flatMap_cons, hv.one, zek, mC] at k
  obtain ⟨u, us', e, k1, k2⟩ := k
  simp only [List.cons_append, List.nil_append, List.cons.injEq] at e
  obtain ⟨rfl, rfl⟩ := e
  exact ⟨v, vs', rfl, k1, zwr d (j + 1) h2 k2⟩
 | (false, .one t) :: ds, us, fp, tp, j, h, k => by
  obtain ⟨v, vs', rfl, h1, h2⟩ := h
  have hv : zal w1 A t v := h1
  simp only [List.flatMap_cons, hv.cells1, zek, mC] at k
  obtain ⟨u, us', e, k1, k2⟩ := k
  simp only [List.cons_append, List.nil_append, List.cons.injEq] at e
  obtain ⟨rfl, rfl⟩ := e
  exact ⟨v, vs', rfl, k1, zwr d (j + 1) h2 k2⟩
 | (true, .agg ts) :: ds, us, fp, tp, j, h, k => by
  obtain ⟨v, vs', f1, f2, t1, t2, rfl, rfl, rfl, ⟨x, rfl, h1⟩, h2⟩ := h
  simp only [List.flatMap_cons, Value.cells, zek, zho] at k
  obtain ⟨v1, v2, e, k1, k2⟩ := k.split
  have hl : x.length = v1.length := by rw [k1.len, zyt, List.length_map]; exact zas.len (zas.of_g h1)
  obtain ⟨e1, e2⟩ := List.append_inj e hl
  subst e1 e2
  rw [List.length_map] at k2
  exact ⟨_, vs', rfl, ⟨x, rfl, k1⟩, zwr d (j + ts.length) h2 k2⟩
 | (false, .agg ts) :: ds, us, fp, tp, j, h, k => by
  obtain ⟨v, vs', rfl, ⟨x, rfl, h1⟩, h2⟩ := h
  simp only [List.flatMap_cons, Value.cells, zek, zho] at k
  obtain ⟨v1, v2, e, k1, k2⟩ := k.split
  have hl : x.length = v1.length := by rw [k1.len, zyt, List.length_map]; exact h1.len
  obtain ⟨e1, e2⟩ := List.append_inj e hl
  subst e1 e2
  rw [List.length_map] at k2
  exact ⟨_, vs', rfl, ⟨x, rfl, k1⟩, zwr d (j + ts.length) h2 k2⟩
theorem zfy {σ : St} {g : Gh} {w : World} {n0 : Nat -> Prop} {N : Nat} {a : Act} (hR : Rel n0 N σ g a w) {B : Sr -> List Nat} (hB : Fam w σ g B) {K : List Sr -> Prop} : ∀ {xs : List V} {ds : List (Bool × D)} {u : List Sr} {ps : List (Nat × Nat × Nat)} {vs : List Value}, gvA σ K u ps xs ds -> VRl σ g w xs vs →
  ∃ s, K (s.reverse ++ u) /\ (∃ tp, za0 w (zcg σ g w) ds vs (bks B s) tp) /\ (∀ x ∈ s, σ.On x.1) /\ (u.Pairwise okP -> (s.reverse ++ u).Pairwise okP)
 | [], [], u, ps, vs, h, hv => ⟨[], h, ⟨[], hv, rfl, rfl⟩, by simp, fun h => h⟩
 | [], _ :: _, _, _, _, h, _ => h.elim
 | x :: xs, [], _, _, _, h, _ => by cases x <;> exact h.elim
 | x :: xs, (false, d) :: ds, u, ps, vs, h, hv => by
  obtain ⟨v, vs', rfl, h1, h2⟩ := hv
  unfold gvA at h
  obtain ⟨hr, h⟩ := h
  obtain ⟨s, k1, ⟨tp, k2⟩, k3, k4⟩ := zfy hR hB h h2
  exact ⟨s, k1, ⟨tp, v, vs', rfl, qe2 hr h1, k2⟩, k3, k4⟩
 | .one c :: xs, (true, .one t) :: ds, u, ps, vs, h, hv => by
  obtain ⟨v, vs', rfl, h1, h2⟩ := hv
  unfold gvA at h
  obtain ⟨s, ps', tp, k1, k2, k3, k4⟩ := zcm hR hB h (vs := [v]) ⟨v, [], rfl, h1, rfl⟩
  obtain ⟨s', j1, ⟨tp', j2⟩, j3, j4⟩ := zfy hR hB k1 h2
  obtain ⟨v0, vs0, f1, f2, t2, e0, e1, rfl, q1, q2⟩ := k2
  cases e0
  obtain ⟨_, rfl, rfl⟩ := q2
  rw [List.append_nil] at e1
  refine ⟨s ++ s', by simpa using j1, ⟨zhy t f1 ++ tp', v, vs', bks B s, bks B s', _, tp', rfl, by unfold bks; rw [List.flatMap_append], rfl, ⟨by rw [e1]; exact q1, by rw [e1]⟩, j2⟩, fun x hx => ?_, fun hu => by simpa using j4 (k4 hu)⟩
  rcases List.mem_append.1 hx with hx | hx
  ·exact k3 x hx
  ·exact j3 x hx
 | .agg cs :: xs, (true, .agg ts) :: ds, u, ps, vs, h, hv => by
  obtain ⟨v, vs', rfl, ⟨y, rfl, h1⟩, h2⟩ := hv
  unfold gvA at h
  obtain ⟨s, ps', tp, k1, k2, k3, k4⟩ := zcm hR hB h h1
  obtain ⟨s', j1, ⟨tp', j2⟩, j3, j4⟩ := zfy hR hB k1 h2
  refine ⟨s ++ s', by simpa using j1, ⟨tp ++ tp', _, vs', bks B s, bks B s', tp, tp', rfl, by unfold bks; rw [List.flatMap_append], rfl, ⟨y, rfl, k2⟩, j2⟩, fun x hx => ?_, fun hu => by simpa using j4 (k4 hu)⟩
  rcases List.mem_append.1 hx with hx | hx
  ·exact k3 x hx
  ·exact j3 x hx
 | .one _ :: _, (true, .agg _) :: _, _, _, _, h, _ => h.elim
 | .agg _ :: _, (true, .one _) :: _, _, _, _, h, _ => h.elim
 | .tup _ :: _, (true, d) :: _, _, _, _, h, _ => by cases d <;> exact h.elim
def XC (P : Program) (f : FuncId) (args res : List (Bool × D)) : Prop := za3 P f /\ ∀ (w : World) (vs : List Value) (fp tp : List Nat) (A : Nat -> Prop), za0 w (fun k => (k < w.heap.size /\ k ∉ fp) /\ A k) args vs fp tp -> fp.Nodup →
 Calls P f ⟨vs⟩ w fun e w' => ∃ us fp' tp', e = .returned (zbs us) /\ za0 w' (fun k => (k < w'.heap.size /\ k ∉ fp') /\ (A k \/ w.heap.size <= k \/ k ∈ fp)) res us fp' tp' /\ fp'.Nodup /\ (∀ b ∈ fp', b ∈ fp \/ w.heap.size <= b) /\ Bk (fun k => k < w.heap.size /\ k ∉ fp) w w'
def PM0 (P : Program) (rs : List ResultVar) (res : List (Bool × D)) (pl : List (Nat × Nat × Nat)) (σ : St) : Prop := zaq (zbr P σ rs) fun vs => gvA σ (fun _ => True) [] pl vs res
def PM (P : Program) (rs : List ResultVar) (res : List (Bool × D)) (e : Exit) (σ : St) : Prop := match e with
 | .normal => PM0 P rs res [] σ \/ ∃ pl, PM0 P rs res pl σ
 | .ret => PM0 P rs res [] σ \/ ∃ pl, PM0 P rs res pl σ
 | _ => False
theorem zo6 {args : List (Bool × D)} {w : World} {vs : List Value} {fp tp : List Nat} {N : Nat} {g : Gh} {a : Act} {B : Nat -> Prop} (hv : za0 w B args vs fp tp) (hR : Rel (fun b => b < w.heap.size /\ b ∉ fp) N (zds args) g a w)
  (ht : a.tmps = (⟨vs⟩ : Array Value) ++ Array.replicate (N - vs.length) undef) (hB : ∀ b, B b -> (b < w.heap.size /\ b ∉ fp) /\ g.A0 b) : Rel (fun b => b < w.heap.size /\ b ∉ fp) N (zc4 args) g a w := by
 have hm : Mv (zds args) (zc4 args) g g w w := Mv.of_eq g w rfl rfl
 refine hR.slots_of (σ' := zc4 args) rfl rfl hR.defers hR.size fun i => ?_
 refine (Mv.of_eq (σ := zc4 args) (σ' := zds args) g w rfl rfl).vr (σ := zc4 args) ?_
 have hi := zh7 args 0 i
 rw [Nat.zero_add] at hi
 show VR _ _ _ (zf7 0 args i) _
 rw [hi]
 cases hd : args[i]? with
 | none => trivial
 | some p =>
  obtain ⟨b, d⟩ := p
  cases b with
  | true =>
   have h0 := hm.vr (hR.slots i)
   have hj := zhn args 0 i
   rw [Nat.zero_add, hd] at hj
   have h0' : VR (zc4 args) g w (ziw 0 args i) (a.tmps.getD i (g.R0.ξ i)) := h0
   rw [hj] at h0'
   exact h0'
  | false =>
   obtain ⟨v, hv1, hv2⟩ := za0.atR hv i d hd
   have hlt : i < vs.length := (List.getElem?_eq_some_iff.1 hv1).1
   have e : a.tmps.getD i (g.R0.ξ i) = v := by
    rw [ht, Array.getD_eq_getD_getElem?, Array.getElem?_append_left (by simpa using hlt)]
    simp [hv1]
   rw [e]
   exact hm.vr (zqq (fun b hb => hR.frOld (hB b hb).1 (hB b hb).1.1 (hB b hb).2) hv2)
theorem XC_of {f : FuncId} {fn : Func} {c : Code} {args res : List (Bool × D)} (hc : za3 P f) (hf : P.funcs[f]? = some fn) (hb : fn.body = some c) (hd : zbb fn.ntmps c = true) (hN : args.length <= fn.ntmps) (hs : zb6 args)
  (h : ex P c [] (PM P fn.results.toList res) (zc4 args)) : XC P f args res := by
 refine ⟨hc, fun w vs fp tp A hv hn => ?_⟩
 refine calls_of_wp hf hb ?_
 have hv' : za0 w (fun b => b < w.heap.size /\ A b /\ b ∉ fp) args vs fp tp := za0.keepA (fun b hb => ⟨hb.1.1, hb.2, hb.1.2⟩) hv
 obtain ⟨g, hg, hR⟩ := Rel.start (A0 := fun b => A b \/ w.heap.size <= b \/ b ∈ fp) (R0 := RP.of fun b => b ∈ fp \/ w.heap.size <= b) (N := fn.ntmps) hv' hn hs hN (fun _ h => Or.inl h) (fun b hb => ⟨Or.inr (Or.inr hb), Or.inl hb⟩) (fun b hb => by
  by_cases hlt : b < w.heap.size
  ·have hm : b ∈ fp := Classical.byContradiction fun h => hb ⟨hlt, h⟩
   exact ⟨Or.inr (Or.inr hm), Or.inl hm⟩
  ·exact ⟨Or.inr (Or.inl (by omega)), Or.inr (by omega)⟩)
 have hR0 := zo6 hv' hR rfl (fun b hb => ⟨⟨hb.1, hb.2.2⟩, by rw [(Prod.mk.inj hg).1]; exact Or.inl hb.2.1⟩)
 refine wp_mono (za8 (w0 := w) c (zc4 args) _ hd h g _ w hR0 (fun k hk => hk.1) (Bk.refl _ _) hg) fun e a' w' hq => ?_
 obtain ⟨σ', g', h1, h2, h3, h4, h5⟩ := hq
 have key : (∃ pl, PM0 P fn.results.toList res pl σ') -> ∃ v, (results fn a'.tmps).run P w' = .ok v w' /\ ∃ us fp' tp', Ending.returned v = .returned (zbs us) /\ za0 w' (fun k => (k < w'.heap.size /\ k ∉ fp') /\ (A k \/ w.heap.size <= k \/ k ∈ fp)) res us fp' tp' /\ fp'.Nodup /\ (∀ b ∈ fp', b ∈ fp \/ w.heap.size <= b) /\ Bk (fun k => k < w.heap.size /\ k ∉ fp) w w' := by
  rintro ⟨pl, hk⟩
  obtain ⟨vs, hvs, hk⟩ := zap hk
  obtain ⟨us, r1, r2⟩ := zbj h2 fn hvs
  obtain ⟨B, hB⟩ := h2.fam
  obtain ⟨s, k1, ⟨tp', k2⟩, k3, k4⟩ := zfy h2 hB hk r2
  rw [List.append_nil] at k4
  have hsp : s.Pairwise okP := (List.pairwise_reverse.1 (k4 List.Pairwise.nil)).imp fun h => h.symm
  have hin : ∀ b ∈ bks B s, ∃ e, σ'.On e /\ b ∈ g'.φ e := fun b hb => by
   obtain ⟨x, hx, hm⟩ := List.mem_flatMap.1 hb
   exact ⟨x.1, k3 x hx, hB.sub x.1 x.2 b (k3 x hx) hm⟩
  have hA : ∀ b, zcg σ' g' w' b -> (b < w'.heap.size /\ b ∉ bks B s) /\ (A b \/ w.heap.size <= b \/ b ∈ fp) := fun b hb => by
   refine ⟨⟨hb.1.2.2.1, fun hm => ?_⟩, ?_⟩
   ·obtain ⟨e, ho, hm⟩ := hin b hm
    exact hb.2 e ho hm
   ·have := hb.1.2.2.2
    rw [(Prod.mk.inj h5).1] at this
    exact this
  refine ⟨_, r1, us, bks B s, tp', rfl, za0.keepA hA k2, ze3 h2 hB k3 hsp, fun b hb => ?_, h4⟩
  obtain ⟨e, ho, hm⟩ := hin b hb
  have := (h2.ebase e ho b hm).2
  rw [(Prod.mk.inj h5).2] at this
  exact this
 have key' : ∀ {Y : Prop}, (PM0 P fn.results.toList res [] σ' \/ ∃ pl, PM0 P fn.results.toList res pl σ') -> ((∃ pl, PM0 P fn.results.toList res pl σ') -> Y) -> Y := fun h k => h.elim (fun h => k ⟨[], h⟩) k
 cases e with
 | normal => exact ⟨h2.defers, key' h1 key⟩
 | ret => exact ⟨h2.defers, key' h1 key⟩
 | exit _ => exact h1.elim
 | goto _ => exact h1.elim
 | panic _ => exact h1.elim
 | outgrown => exact h1.elim
def St.callX (σ : St) (d : Nat) (res : List (Bool × D)) : St := { sl := upd σ.sl d (zus (mD d 0 res)), bx := σ.bx, ev := mE d 0 (zek res) σ.ev }
theorem zz2 {o : Oper} {σ τ : St} {x : Operand} {asx : Array Operand} {ts : Array TypeId} {f : FuncId} {cvs : List V} {d : Nat} {ds res : List (Bool × D)} {ps : List (Nat × Nat × Nat)} (ho : o.op = .call ⟨.value x, asx, ts⟩) (hd : o.dst = some d)
  (h : XC P f ds res) (hc : zaw (σ.get P 0 x) = some (f, cvs)) (hK : Kept σ τ) (hv : gvA σ (fun u => ∀ s ∈ u, τ.ev s.1 = none) [] ps (σ.gets P asx ts ++ cvs) ds) (hf : mF d 0 (zek res) τ.ev) : zaf P o σ (τ.callX d res) := by
 intro n0 N g a w hR hn hdN
 obtain ⟨vs, h1, h2⟩ := zdo hR ho hc h.1
 unfold Oper.wp
 rw [h1]
 obtain ⟨B, hB⟩ := hR.fam
 obtain ⟨s, k1, ⟨tp, k2⟩, k3, k4⟩ := zfy hR hB hv h2
 rw [List.append_nil] at k1 k4
 have hsp : s.Pairwise okP := (List.pairwise_reverse.1 (k4 List.Pairwise.nil)).imp fun h => h.symm
 have hnd := ze3 hR hB k3 hsp
 have hfp : ∀ b ∈ bks B s, ∃ e, σ.On e /\ τ.ev e = none /\ b ∈ g.φ e := fun b hb => by
  obtain ⟨x, hx, hm⟩ := List.mem_flatMap.1 hb
  exact ⟨x.1, k3 x hx, k1 x (List.mem_reverse.2 hx), hB.sub x.1 x.2 b (k3 x hx) hm⟩
 have hfn : ∀ b, zcg σ g w b -> b ∉ bks B s := fun b hb hm => by obtain ⟨e, h1, _, h3⟩ := hfp b hm; exact hb.2 e h1 h3
 refine (h.2 w vs (bks B s) tp (zcg σ g w) (za0.keepA (fun b hb => ⟨⟨hb.1.2.2.1, hfn b hb⟩, hb⟩) k2) hnd).mono ?_
 rintro e w' ⟨us, fp', tp', rfl, o1, o2, o3, hbk⟩
 obtain ⟨tp2, o1'⟩ := o1.flat
 obtain ⟨g', q1, q2, q3⟩ := New.mix (τ := τ) (g := g) (NB := fun b => b ∈ bks B s \/ w.heap.size <= b) (w' := w') d (zek res) _ fp' tp2 0 τ.ev g [] (New.refl _ _ _ _ hR.slc) hf o1' o2 (fun b hb' => ⟨o3 b hb', by simp⟩)
 have hR' := hR.given hn hK hfp hbk q1
 have hBk : Bk n0 w w' := ⟨hbk.os, hbk.tape, hbk.output, hbk.size, fun k hk => hbk.block k ⟨hn k hk, fun hm => by
  obtain ⟨e, h1, _, h3⟩ := hfp k hm
  exact hR.etop e h1 k h3 hk⟩⟩
 have hfree : ∀ k, ((k < w'.heap.size /\ k ∉ fp') /\ (zcg σ g w k \/ w.heap.size <= k \/ k ∈ bks B s)) -> zcg ⟨τ.sl, τ.bx, mE d 0 (zek res) τ.ev⟩ g' w' k := fun k hk => by
  have hOnσ : ∀ e, τ.On e -> σ.On e := fun e ⟨x, hx, ho⟩ => ⟨x, (hK.ev e x hx).1, ho⟩
  have hno : ∀ e, St.On ⟨τ.sl, τ.bx, mE d 0 (zek res) τ.ev⟩ e -> k ∉ g'.φ e := fun e ho' hm => by
   by_cases hee : τ.ev e = none
   ·obtain ⟨x, hx, _⟩ := ho'
    have := ((q1.new e x hee hx).2.2.1 k hm).2
    rw [List.nil_append] at this
    exact hk.1.2 this
   ·rw [(q1.old e hee).2.2] at hm
    obtain ⟨x, hx, hon⟩ := ho'
    have ho2 : τ.On e := ⟨x, (q1.old e hee).1.symm.trans hx, hon⟩
    rcases hk.2 with h | h | h
    ·exact h.2 e (hOnσ e ho2) hm
    ·obtain ⟨y, hy, hyo⟩ := hOnσ e ho2
     have := (hR.evs e y hy hyo).lt k hm; omega
    ·obtain ⟨e', h1, h2, h3⟩ := hfp k h
     refine hR.apart e e' (hOnσ e ho2) h1 (fun ee => ?_) k hm h3
     subst ee
     obtain ⟨y, hy, _⟩ := ho2
     rw [h2] at hy; cases hy
  have hbne : ∀ b, τ.bx b ≠ none -> σ.bx b ≠ none := fun b hb => by
   obtain ⟨cs, hcs⟩ := Option.ne_none_iff_exists'.1 hb
   rw [(hK.bx b cs hcs).1]; simp
  refine ⟨⟨fun j hj e => ?_, fun e x hx hon hh => hno e ⟨x, hx, hon⟩ (List.mem_of_mem_head? hh), hk.1.1, ?_⟩, hno⟩
  ·have hj' := hbne j hj
   rw [q1.β] at e
   rcases hk.2 with h | h | h
   ·exact h.1.1 j hj' e
   ·have := hR.lt hj'; omega
   ·obtain ⟨e', h1, _, h3⟩ := hfp k h
    exact hR.ebx e' j h1 hj' (e ▸ h3)
  ·rw [q1.A0]
   rcases hk.2 with h | h | h
   ·exact h.1.2.2.2
   ·exact (hR.anew k (hn.new h)).1
   ·obtain ⟨e', h1, _, h3⟩ := hfp k h
    exact (hR.ebase e' h1 k h3).1
 refine ⟨g', ?_, hBk, q1.A0, q1.R0⟩
 have hp := hR'.put (some d) (x := zus (mD d 0 res)) (v := zbs us) (zfo (zwr d 0 o1 (q3 _ _ rfl fun t v h => zal.keep (fun _ _ => rfl) hfree t v h)) (zy0 d res 0)) (fun i hi => by cases hi; exact hdN d hd)
 rw [hd]
 exact hp
section
variable {ks : List Fr} {Q : Exit -> St -> Prop} {σ : St} {ops : Array Oper} {os : List Oper} {ty : TypeId} {ps : String} {af : Array Edge} {d : Nat} {x : Operand} {asx : Array Operand} {ts : Array TypeId} {f : FuncId} {ds res : List (Bool × D)}
theorem callX (la l : List (Nat × V)) (ba bl : List (Nat × List C)) (ea el : List (Nat × Ev)) (pl : List (Nat × Nat × Nat)) (h : XC P f ds res)
  (hw : wkL σ (hd (la ++ l) (ba ++ bl) (ea ++ el)) (la ++ l) /\ wkB σ (hd (la ++ l) (ba ++ bl) (ea ++ el)) (ba ++ bl) /\ wkE σ (ea ++ el))
  (hk : zc5 l la /\ zc5 bl ba /\ zc5 el ea /\ okL (hd l bl el) l /\ okB (hd l bl el) bl /\ okE el)
  (hp : zaq (zaw ((hd (la ++ l) (ba ++ bl) (ea ++ el)).get P 0 x)) fun p => p.1 = f /\ gvA (hd (la ++ l) (ba ++ bl) (ea ++ el)) (zon el) [] pl ((hd (la ++ l) (ba ++ bl) (ea ++ el)).gets P asx ts ++ p.2) ds) (hf : mF d 0 (zek res) (hd l bl el).ev)
  (k : exo P ops os ks Q ((hd l bl el).callX d res)) : exo P ops (⟨some d, .call ⟨.value x, asx, ts⟩, ty, ps, af, none⟩ :: os) ks Q σ := by
 obtain ⟨⟨f', cvs⟩, h1, rfl, h2⟩ := zap hp
 obtain ⟨k1, k2, k3, k4, k5, k6⟩ := hk
 refine zct rfl rfl (zaf.pre (zac hw) (zz2 (P := P) (o := ⟨some d, .call ⟨.value x, asx, ts⟩, ty, ps, af, none⟩) rfl rfl h h1 (τ := hd l bl el) ⟨fun i => ?_, fun b cs hb => ⟨zii k2 b cs hb, zqj k5 b cs hb⟩, fun e x he => ⟨zii k3 e x he, zpm k6 e x he⟩⟩ (zf2 (fun u hu => zif hu) h2) hf)) k
 rcases zk4 k1 i with h | h
 ·exact Or.inl h
 ·exact Or.inr ⟨h, zo1 k4 i⟩
theorem zst (L A : List Nat) (pl : List (Nat × Nat × Nat)) (h : XC P f ds res)
  (hw : wkL σ (hd (σ.lL A ++ σ.lL L) (σ.lB (dif (σ.KB L) (σ.KB A)) ++ σ.lB (σ.KB L)) (σ.lE (dif (σ.KE L) (σ.KE A)) ++ σ.lE (σ.KE L))) (σ.lL A ++ σ.lL L) /\ wkB σ (hd (σ.lL A ++ σ.lL L) (σ.lB (dif (σ.KB L) (σ.KB A)) ++ σ.lB (σ.KB L)) (σ.lE (dif (σ.KE L) (σ.KE A)) ++ σ.lE (σ.KE L))) (σ.lB (dif (σ.KB L) (σ.KB A)) ++ σ.lB (σ.KB L)) /\ wkE σ (σ.lE (dif (σ.KE L) (σ.KE A)) ++ σ.lE (σ.KE L)))
  (hk : zc5 (σ.lL L) (σ.lL A) /\ zc5 (σ.lB (σ.KB L)) (σ.lB (dif (σ.KB L) (σ.KB A))) /\ zc5 (σ.lE (σ.KE L)) (σ.lE (dif (σ.KE L) (σ.KE A))) /\ okL (σ.hL L) (σ.lL L) /\ okB (σ.hL L) (σ.lB (σ.KB L)) /\ okE (σ.lE (σ.KE L)))
  (hp : zaq (zaw ((hd (σ.lL A ++ σ.lL L) (σ.lB (dif (σ.KB L) (σ.KB A)) ++ σ.lB (σ.KB L)) (σ.lE (dif (σ.KE L) (σ.KE A)) ++ σ.lE (σ.KE L))).get P 0 x)) fun p => p.1 = f /\ gvA (hd (σ.lL A ++ σ.lL L) (σ.lB (dif (σ.KB L) (σ.KB A)) ++ σ.lB (σ.KB L)) (σ.lE (dif (σ.KE L) (σ.KE A)) ++ σ.lE (σ.KE L))) (zon (σ.lE (σ.KE L))) [] pl ((hd (σ.lL A ++ σ.lL L) (σ.lB (dif (σ.KB L) (σ.KB A)) ++ σ.lB (σ.KB L)) (σ.lE (dif (σ.KE L) (σ.KE A)) ++ σ.lE (σ.KE L))).gets P asx ts ++ p.2) ds)
  (hf : mF d 0 (zek res) (σ.hL L).ev) (k : exo P ops os ks Q ((σ.hL L).callX d res)) : exo P ops (⟨some d, .call ⟨.value x, asx, ts⟩, ty, ps, af, none⟩ :: os) ks Q σ :=
 callX (σ.lL A) (σ.lL L) _ _ _ _ pl h hw hk hp hf k
end
attribute [go_sem] zek mC1 mC mE mF mD St.callX PM PM0 zs6 qd2
end Go.Proofs.YtemnhgmgeijkcaaGreat
namespace Go.Proofs.YtemnhgmgeijkcaaGreat
set_option linter.unusedSimpArgs false
set_option linter.unusedVariables false
set_option linter.unusedSectionVars false
set_option maxRecDepth 4000
open Go.RowKit
variable {P : Program}
def C.fz (e : Nat) (x : Ev) : C -> C
 | .ow e' g => if e' = e then (if g = x.gen then .rn (.sl x.sz x.rows) else .any) else .ow e' g
 | .eo e' g sz i o => if e' = e then .any else .eo e' g sz i o
 | c => c
def fzS (f : Nat -> V) (e : Nat) (x : Ev) : Nat -> V := fun i => (f i).map (C.fz e x)
def fzB (f : Nat -> Option (List C)) (e : Nat) (x : Ev) : Nat -> Option (List C) := fun b => (f b).map fun cs => cs.map (C.fz e x)
def fzE (f : Nat -> Option Ev) (e : Nat) : Nat -> Option Ev := fun k => if k = e then none else f k
theorem fzS_at (f : Nat -> V) (e : Nat) (x : Ev) (i : Nat) : fzS f e x i = (f i).map (C.fz e x) := rfl
theorem zrc (f : Nat -> Option (List C)) (e : Nat) (x : Ev) (b : Nat) : fzB f e x b = (f b).map fun cs => cs.map (C.fz e x) := rfl
theorem fzE_at (f : Nat -> Option Ev) (e k : Nat) : fzE f e k = if k = e then none else f k := rfl
def St.fz (σ : St) (e : Nat) (x : Ev) : St := ⟨fzS σ.sl e x, fzB σ.bx e x, fzE σ.ev e⟩
theorem fz_wk {σ : St} {e : Nat} {x : Ev} (hx : σ.ev e = some x) (hd : x.deep = true) (ho : x.on = true) : Wk σ (σ.fz e x) := by
 intro n0 N g a w h
 have hev : ∀ e', e' ≠ e -> (σ.fz e x).ev e' = σ.ev e' := fun e' he => by show (if e' = e then none else σ.ev e') = _; rw [if_neg he]
 have hee : (σ.fz e x).ev e = none := by show (if e = e then none else σ.ev e) = _; rw [if_pos rfl]
 have hsome : ∀ e' z, (σ.fz e x).ev e' = some z -> e' ≠ e /\ σ.ev e' = some z := fun e' z hz => by
  by_cases he : e' = e
  ·subst he; rw [hee] at hz; cases hz
  ·exact ⟨he, by rw [<- hev e' he]; exact hz⟩
 have hon : ∀ e', (σ.fz e x).On e' -> e' ≠ e /\ σ.On e' := fun e' ⟨z, hz, h1⟩ => ⟨(hsome e' z hz).1, z, (hsome e' z hz).2, h1⟩
 have hbx : ∀ b, (σ.fz e x).bx b ≠ none ↔ σ.bx b ≠ none := fun b => by unfold St.fz; simp [zrc]
 have hOn : σ.On e := ⟨x, hx, ho⟩
 have hf : ∀ b, Fix σ g w b -> Fix (σ.fz e x) g w b := fun b hf => ⟨fun k hk => hf.1 k ((hbx k).1 hk), fun e' z hz h1 => hf.2.1 e' z (hsome e' z hz).2 h1, hf.2.2⟩
 have hfr : ∀ b, zcg σ g w b -> zcg (σ.fz e x) g w b := fun b hb => ⟨hf b hb.1, fun e' h' => hb.2 e' (hon e' h').2⟩
 have hgone : ∀ b ∈ g.φ e, b < w.heap.size -> zcg (σ.fz e x) g w b := fun b hb hl => by
  have hne : ∀ e', (σ.fz e x).On e' -> b ∉ g.φ e' := fun e' he' hm => h.apart e e' hOn (hon e' he').2 (Ne.symm (hon e' he').1) b hb hm
  exact ⟨⟨fun j hj hjb => h.ebx e j hOn ((hbx j).1 hj) (by rw [hjb]; exact hb), fun e' z hz h1 hh => hne e' ⟨z, hz, h1⟩ (List.mem_of_mem_head? hh), hl, (h.ebase e hOn b hb).1⟩, hne⟩
 have hhas : ∀ e' n, e' ≠ e -> σ.has e' n -> (σ.fz e x).has e' n := fun e' n he ⟨z, hz, h1⟩ => ⟨z, by rw [hev e' he]; exact hz, h1⟩
 have cr : ∀ c v, CR σ g w c v -> CR (σ.fz e x) g w (c.fz e x) v := fun c v hc => by
  cases c with
  | t y => exact zal.keep (fun _ _ => rfl) hf y v hc
  | nl s => exact hc
  | ow e' n =>
   show CR _ _ _ (if e' = e then (if n = x.gen then .rn (.sl x.sz x.rows) else .any) else .ow e' n) v
   by_cases he : e' = e
   ·subst he
    rw [if_pos rfl]
    by_cases hn : n = x.gen
    ·rw [if_pos hn]
     subst hn
     obtain ⟨ao, cap, e1, e2, e3, e4⟩ := h.evs _ x hx ho
     rw [<- hc.1] at e1
     show zal _ _ _ _
     unfold zal
     refine ⟨ao, cap, e1, e2, e3, ?_⟩
     rcases e4 with ⟨_, _, e4, _⟩ | ⟨b, cells, ty, fps, k1, k2, k3, k4, k5⟩
     ·exact Or.inl e4
     ·rw [if_pos hd] at k5
      have hl : ∀ b' ∈ fps, b' < w.heap.size := zak.lt cells 0 x.sz x.rows fps k5
      exact Or.inr ⟨b, 0, k1, hgone b (by rw [k2]; simp) (Array.getElem?_eq_some_iff.1 k3).1, zak.rep b cells ty k3 0 x.sz x.rows fps k5 fun b' hb' => hgone b' (by rw [k2]; simp [hb']) (hl b' hb')⟩
    ·rw [if_neg hn]; trivial
   ·rw [if_neg he]; exact ⟨hc.1, hhas e' n he hc.2⟩
  | bx b o => exact ⟨hc.1, (hbx b).2 hc.2⟩
  | el cs o => obtain ⟨b, q, h1, h2, h3⟩ := hc; exact ⟨b, q, h1, hf b h2, za5.keep (fun _ _ => rfl) hf b rfl q cs h3⟩
  | eo e' s sz i o =>
   show CR _ _ _ (if e' = e then .any else .eo e' s sz i o) v
   by_cases he : e' = e
   ·rw [if_pos he]; trivial
   ·rw [if_neg he]; obtain ⟨b, n, c, h1, h2, h3, h4⟩ := hc; exact ⟨b, n, c, h1, h2, h3, hhas e' s he h4⟩
  | fn f caps => exact ⟨hc.1, fun b hb => (hbx b).2 (hc.2 b hb)⟩
  | cv u => exact hc
  | any => trivial
  | rn y => exact zal.keep (fun _ _ => rfl) hfr y v hc
  | er cs o => obtain ⟨b, q, h1, h2, h3⟩ := hc; exact ⟨b, q, h1, hfr b h2, za5.keep (fun _ _ => rfl) hfr b rfl q cs h3⟩
 refine ⟨g, ⟨h.defers, h.size, h.anew, fun i => VR.map cr (h.slots i), fun b cs hb => ?_, fun b hb => h.base b ((hbx b).1 hb), fun b b' h1 h2 => h.inj b b' ((hbx b).1 h1) ((hbx b').1 h2), fun e' z hz h1 => ?_, fun e' z hz h1 => ?_, h.slc, fun e' h1 => h.ebase e' (hon e' h1).2, fun e' h1 => h.etop e' (hon e' h1).2, fun e' h1 => h.nodup e' (hon e' h1).2, fun e1 e2 h1 h2 => h.apart e1 e2 (hon e1 h1).2 (hon e2 h2).2, fun e' k h1 h2 => h.ebx e' k (hon e' h1).2 ((hbx k).1 h2)⟩, rfl, rfl⟩
 ·cases hc : σ.bx b with
  | none => unfold St.fz at hb; simp only [zrc, hc, Option.map_none] at hb; cases hb
  | some cs0 =>
   unfold St.fz at hb
   simp only [zrc, hc, Option.map_some, Option.some.injEq] at hb
   subst hb
   obtain ⟨vs, ty, k1, k2⟩ := h.boxes b cs0 hc
   exact ⟨vs, ty, k1, CRs.map cr k2⟩
 ·obtain ⟨ao, cap, e1, e2, e3, e4⟩ := h.evs e' z (hsome e' z hz).2 h1
  refine ⟨ao, cap, e1, e2, e3, ?_⟩
  rcases e4 with e4 | ⟨b, cells, ty, fps, k1, k2, k3, k4, k5⟩
  ·exact Or.inl e4
  ·refine Or.inr ⟨b, cells, ty, fps, k1, k2, k3, k4, ?_⟩
   split at k5
   ·rw [if_pos ‹_›]; exact k5
   ·rw [if_neg ‹_›]; exact ⟨k5.1, zam.keep (fun _ _ => rfl) hf b rfl 0 z.sz z.rows k5.2⟩
 ·exact ⟨zal.keep (fun _ _ => rfl) hf _ _ (h.offs e' z (hsome e' z hz).2 h1).1, (h.offs e' z (hsome e' z hz).2 h1).2⟩
theorem zcv.pre {o : Oper} {σ σ' : St} {K : St -> Prop} (h : Wk σ σ') (k : zcv P o σ' K) : zcv P o σ K := fun n0 N g a w hR hn hd => by
 obtain ⟨g1, h1, h2, h3⟩ := h n0 N g a w hR
 have := k n0 N g1 a w h1 hn hd
 unfold Oper.wp at this ⊢
 revert this
 cases (execOp a.eval o).run P w <;> intro this <;> try exact this
 all_goals (revert this; rw [h2, h3]; exact id)
theorem zdr.pre {id : Nat} {ops : Array Oper} {σ σ' : St} {K : St -> Prop} (h : Wk σ σ') (k : zdr P id ops σ' K) : zdr P id ops σ K := fun n0 N g a w hR hn hd => by
 obtain ⟨g1, h1, h2, h3⟩ := h n0 N g a w hR
 have := k n0 N g1 a w h1 hn hd
 rw [h2, h3] at this
 exact this
section
variable {ks : List Fr} {Q : Exit -> St -> Prop} {σ : St} {ops : Array Oper} {os : List Oper} {o : Oper}
theorem qgz {σ' : St} (h : Wk σ σ') (hg : o.guard = none) (hs : zu0 o.op = true) (k : exo P ops (o :: os) ks Q σ') : exo P ops (o :: os) ks Q σ := by
 unfold exo zbc exG at k ⊢
 rw [hg] at k ⊢
 simp only at k ⊢
 unfold zb2 zl1 at k ⊢
 rw [if_pos (by rw [hs]; rfl)] at k ⊢
 exact k.pre h
theorem frzO (e : Nat) (hg : o.guard = none) (hs : zu0 o.op = true) (k : zaq (σ.ev e) fun x => x.deep = true /\ x.on = true /\ exo P ops (o :: os) ks Q (σ.fz e x)) : exo P ops (o :: os) ks Q σ := by
 obtain ⟨x, hx, h1, h2, h3⟩ := zap k
 exact qgz (fz_wk hx h1 h2) hg hs h3
theorem frzD (e : Nat) {i : Nat} (k : zaq (σ.ev e) fun x => x.deep = true /\ x.on = true /\ ex P (.region i ops true) ks Q (σ.fz e x)) : ex P (.region i ops true) ks Q σ := by
 obtain ⟨x, hx, h1, h2, h3⟩ := zap k
 exact zdr.pre (fz_wk hx h1 h2) h3
end
attribute [go_sem] C.fz St.fz V.map fzS_at zrc fzE_at
end Go.Proofs.YtemnhgmgeijkcaaGreat
