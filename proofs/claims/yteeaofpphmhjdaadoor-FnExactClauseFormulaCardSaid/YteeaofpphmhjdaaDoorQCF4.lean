/-
  The walk over plain data, and contracts of functions of the program and of its laws.
  Conditions: those that each theorem names.
-/
import Derived.Test.YteeaofpphmhjdaaDoorQCF3
import Derived.RangeFuncNested
import Derived.RangeFuncLeaves
import Derived.Test.YteeaofpphmhjdaaDoorProg
import Derived.KernelRfl
import Derived.Test.YteeaofpphmhjdaaDoorQCF1
import Derived.Sort.OwnSorted
import Derived.Sort.KeysCollected
import Derived.Sort.Walk0
import Derived.Laws.AppendOwn
import Derived.Shelf.Strconv.Itoa3
import Derived.RangeFuncBound
import Derived.RangeFuncCalls
import Derived.TacticsInMore
import Derived.LoopNIn
import Derived.LoopIn
namespace Go.Proofs.YteeaofpphmhjdaaDoor
set_option linter.unusedSimpArgs false
set_option linter.unusedVariables false
set_option linter.unusedSectionVars false
set_option maxRecDepth 4000
open Go.RowKit
variable {P : Program}
abbrev Sr := Nat × Option (Nat × Nat)
def okQ : Option (Nat × Nat) -> Option (Nat × Nat) -> Bool
 | some a, some b => !(a.1 == b.1 && a.2 == b.2)
 | _, _ => false
def okS : List Sr -> Sr -> Bool
 | [], _ => true
 | (e, p) :: u, (e', p') => (if e = e' then okQ p p' else true) && okS u (e', p')
def owU (x : Option Ev) (sz : Nat) (rows : List (List T)) (g : Nat) : Prop := zam x fun y => y.deep = true /\ y.sz = sz /\ (y.rows = rows \/ zdk y.rows = rows) /\ y.gen = g /\ y.on = true
def gvT (σ : St) (K : List Sr -> List (Nat × Nat × Nat) -> Prop) (u : List Sr) (ps : List (Nat × Nat × Nat)) (x t : T) : Prop := match x, ps with
 | .pin v y, (e, i, j) :: ps => y = t /\ okS u (e, some (i, j)) = true /\ onN (σ.ev e) i j v t /\ K ((e, some (i, j)) :: u) ps
 | x, ps => x = t /\ t.flat = true /\ K u ps
theorem zqd {σ : St} {K K' : List Sr -> List (Nat × Nat × Nat) -> Prop} (hK : ∀ u ps, K u ps -> K' u ps) {u : List Sr} {ps : List (Nat × Nat × Nat)} {x t : T} (h : gvT σ K u ps x t) : gvT σ K' u ps x t := by
 unfold gvT at h ⊢
 split at h
 ·exact ⟨h.1, h.2.1, h.2.2.1, hK _ _ h.2.2.2⟩
 ·exact ⟨h.1, h.2.1, hK _ _ h.2.2⟩
def gvK (σ : St) (K : List Sr -> List (Nat × Nat × Nat) -> Prop) : List Sr -> List (Nat × Nat × Nat) -> List C -> List T -> Prop
 | u, ps, [], [] => K u ps
 | u, ps, .t x :: cs, t :: ts => gvT σ (fun u ps => gvK σ K u ps cs ts) u ps x t
 | u, ps, .nl _ :: cs, .sl _ rows :: ts => rows = [] /\ gvK σ K u ps cs ts
 | u, ps, .ow e g :: cs, .sl sz rows :: ts => okS u (e, none) = true /\ owU (σ.ev e) sz rows g /\ gvK σ K ((e, none) :: u) ps cs ts
 | u, (e, i, j) :: ps, .cv v :: cs, t :: ts => okS u (e, some (i, j)) = true /\ onN (σ.ev e) i j v t /\ gvK σ K ((e, some (i, j)) :: u) ps cs ts
 | _, _, _, _ => False
def rdC : C -> T -> Prop
 | .t x, y => x = y /\ T.nm y = true
 | .fn f [], .fn g [] => f = g
 | .rn x, y => x = y
 | .er cs o, .ptr cs' => o = 0 /\ cs = cs'
 | .nl _, .sl _ rows => rows = []
 | _, _ => False
def rdCs : List C -> List T -> Prop
 | [], [] => True
 | c :: cs, t :: ts => rdC c t /\ rdCs cs ts
 | _, _ => False
def rdV : V -> D -> Prop
 | .one c, .one t => rdC c t
 | .agg cs, .agg ts => rdCs cs ts
 | _, _ => False
def gvA (σ : St) (K : List Sr -> Prop) : List Sr -> List (Nat × Nat × Nat) -> List V -> List (Bool × D) -> Prop
 | u, _, [], [] => K u
 | u, ps, v :: vs, (false, d) :: ds => rdV v d /\ gvA σ K u ps vs ds
 | u, ps, .one c :: vs, (true, .one t) :: ds => gvK σ (fun u ps => gvA σ K u ps vs ds) u ps [c] [t]
 | u, ps, .agg cs :: vs, (true, .agg ts) :: ds => gvK σ (fun u ps => gvA σ K u ps vs ds) u ps cs ts
 | _, _, _, _ => False
theorem zc8 {σ : St} {K K' : List Sr -> List (Nat × Nat × Nat) -> Prop} (hK : ∀ u ps, K u ps -> K' u ps) : ∀ {cs : List C} {ts : List T} {u : List Sr} {ps : List (Nat × Nat × Nat)}, gvK σ K u ps cs ts -> gvK σ K' u ps cs ts
 | [], [], _, _, h => hK _ _ h
 | [], _ :: _, _, _, h => by cases h
 | c :: cs, [], u, ps, h => by cases c <;> first | exact (show False from h).elim | (cases ps <;> exact (show False from h).elim)
 | c :: cs, t :: ts, u, ps, h => by
  unfold gvK at h ⊢
  split at h
  ·rename_i e1 e2; cases e1
  ·rename_i e1 e2; cases e1; cases e2; exact zqd (fun u ps h => zc8 hK h) h
  ·rename_i e1 e2; cases e1; cases e2; exact ⟨h.1, zc8 hK h.2⟩
  ·rename_i e1 e2; cases e1; cases e2; exact ⟨h.1, h.2.1, zc8 hK h.2.2⟩
  ·rename_i e1 e2; cases e1; cases e2; exact ⟨h.1, h.2.1, zc8 hK h.2.2⟩
  ·exact h.elim
theorem ze1 {σ : St} {K K' : List Sr -> Prop} (hK : ∀ u, K u -> K' u) : ∀ {xs : List V} {ds : List (Bool × D)} {u : List Sr} {ps : List (Nat × Nat × Nat)}, gvA σ K u ps xs ds -> gvA σ K' u ps xs ds
 | [], [], _, _, h => hK _ h
 | [], _ :: _, _, _, h => h.elim
 | x :: xs, [], _, _, h => by cases x <;> exact h.elim
 | x :: xs, (false, d) :: ds, _, _, h => by unfold gvA at h ⊢; exact ⟨h.1, ze1 hK h.2⟩
 | .one c :: xs, (true, .one t) :: ds, _, _, h => by unfold gvA at h ⊢; exact zc8 (fun u ps hu => ze1 hK hu) h
 | .agg cs :: xs, (true, .agg ts) :: ds, _, _, h => by unfold gvA at h ⊢; exact zc8 (fun u ps hu => ze1 hK hu) h
 | .one _ :: _, (true, .agg _) :: _, _, _, h => h.elim
 | .agg _ :: _, (true, .one _) :: _, _, _, h => h.elim
 | .tup _ :: _, (true, d) :: _, _, _, h => by cases d <;> exact h.elim
theorem zai.fam {w : World} : ∀ {cs : List T} {vs : List Value} {fps : List Nat}, zai w cs vs fps -> ∃ F : Nat -> List Nat, (∀ k c, cs[k]? = some c -> ∃ v, vs[k]? = some v /\ zaj w c v (F k)) /\ (∀ k b, b ∈ F k -> b ∈ fps) /\ (fps.Nodup -> (∀ k, (F k).Nodup) /\ ∀ k k', k ≠ k' -> ∀ b ∈ F k, b ∉ F k')
 | [], vs, fps, h => ⟨fun _ => [], fun k c hc => by simp at hc, by simp, fun _ => ⟨by simp, by simp⟩⟩
 | c :: cs, _, _, h => by
  obtain ⟨v, vs', f1, f2, rfl, rfl, h1, h2⟩ := h
  obtain ⟨F, k1, k2, k3⟩ := zai.fam h2
  refine ⟨fun k => match k with | 0 => f1 | k + 1 => F k, fun k c' hc => ?_, fun k b hb => ?_, fun hn => ?_⟩
  ·cases k with
   | zero => simp only [List.getElem?_cons_zero, Option.some.injEq] at hc; subst hc; exact ⟨v, rfl, h1⟩
   | succ k => exact k1 k c' (by simpa using hc)
  ·cases k with
   | zero => exact List.mem_append_left _ hb
   | succ k => exact List.mem_append_right _ (k2 k b hb)
  ·obtain ⟨n1, n2, n3⟩ := List.nodup_append.1 hn
   obtain ⟨m1, m2⟩ := k3 n2
   refine ⟨fun k => ?_, fun k k' hne b hb hb' => ?_⟩
   ·cases k with
    | zero => exact n1
    | succ k => exact m1 k
   ·cases k with
    | zero =>
     cases k' with
     | zero => exact hne rfl
     | succ k' => exact n3 b hb b (k2 k' b hb') rfl
    | succ k =>
     cases k' with
     | zero => exact n3 b hb' b (k2 k b hb) rfl
     | succ k' => exact m2 k k' (by omega) b hb hb'
theorem zo8 {sz : Nat} : ∀ {rows : List (List T)} {i j : Nat} {r : List T} {c : T}, lens sz rows -> rows[i]? = some r -> r[j]? = some c -> rows.flatten[i * sz + j]? = some c
 | [], _, _, _, _, _, h, _ => by simp at h
 | d :: rows, 0, j, r, c, hl, hr, hc => by
  simp only [List.getElem?_cons_zero, Option.some.injEq] at hr
  subst hr
  have hj : j < d.length := by
   rcases Nat.lt_or_ge j d.length with h | h
   ·exact h
   ·rw [List.getElem?_eq_none h] at hc; cases hc
  rw [List.flatten_cons, List.getElem?_append_left (by omega)]
  simpa using hc
 | d :: rows, i + 1, j, r, c, hl, hr, hc => by
  have hd : d.length = sz := hl d (by simp)
  have := zo8 (sz := sz) (rows := rows) (fun r hr => hl r (by simp [hr])) (by simpa using hr) hc
  rw [List.flatten_cons, List.getElem?_append_right (by rw [hd, Nat.add_mul]; omega)]
  rwa [show (i + 1) * sz + j - d.length = i * sz + j by rw [hd, Nat.add_mul]; omega]
structure Fam (w : World) (σ : St) (g : Gh) (B : Sr -> List Nat) : Prop where
 whole : ∀ e, B (e, none) = g.φ e
 cell : ∀ e i j v t, onN (σ.ev e) i j v t -> zaj w t v (B (e, some (i, j)))
 sub : ∀ e p b, σ.On e -> b ∈ B (e, p) -> b ∈ g.φ e
 nodup : ∀ e p, σ.On e -> (B (e, p)).Nodup
 apart : ∀ e p p', σ.On e -> p ≠ p' -> ∀ b ∈ B (e, some p), b ∉ B (e, some p')
theorem Rel.fam {n0 : Nat -> Prop} {N : Nat} {σ : St} {g : Gh} {a : Act} {w : World} (hR : Rel n0 N σ g a w) : ∃ B, Fam w σ g B := by
 have h1 : ∀ e, ∃ F : Nat × Nat -> List Nat, ∀ dp sz rows gn, σ.ev e = some ⟨dp, sz, rows, gn, true⟩ -> ((dp = true -> ∀ i j v t, rows[i]?.isSome = true -> (rows.getD i [])[j]? = some (.pin v t) -> zaj w t v (F (i, j))) /\ (∀ p b, b ∈ F p -> b ∈ g.φ e) /\ (∀ p, (F p).Nodup) /\ ∀ p p', p ≠ p' -> ∀ b ∈ F p, b ∉ F p') := by
  intro e
  by_cases hon : ∃ sz rows gn, σ.ev e = some ⟨true, sz, rows, gn, true⟩
  ·obtain ⟨sz, rows, gn, he⟩ := hon
   have hnd := hR.nodup e ⟨_, he, rfl⟩
   obtain ⟨ao, cap, vs, k1, k2, k3, k4, k5, k6, k7⟩ := hR.vals he rfl
   rcases k7 with ⟨_, _, k7, k8⟩ | ⟨b, cells, ty, fps, k7, k8, k9, k10, k11, k12, k13⟩
   ·refine ⟨fun _ => [], fun dp sz' rows' gn' he' => ?_⟩
    rw [he, Option.some.injEq] at he'
    cases he'
    have k7 : rows = [] := k7
    subst k7
    exact ⟨fun _ i j v t h => by simp at h, by simp, by simp, by simp⟩
   ·obtain ⟨F, f1, f2, f3⟩ := (k12 rfl).fam
    rw [k8] at hnd
    obtain ⟨m1, m2⟩ := f3 (List.nodup_cons.1 hnd).2
    refine ⟨fun p => if p.2 < sz /\ p.1 < rows.length then F (p.1 * sz + p.2) else [], fun dp sz' rows' gn' he' => ?_⟩
    rw [he, Option.some.injEq] at he'
    cases he'
    refine ⟨fun _ i j v t h1 h2 => ?_, fun p b hb => ?_, fun p => ?_, fun p p' hne b hb hb' => ?_⟩
    ·obtain ⟨r, hr⟩ := Option.isSome_iff_exists.1 h1
     have hg : rows.getD i [] = r := by rw [List.getD_eq_getElem?_getD, hr]; rfl
     rw [hg] at h2
     have hj : j < sz := by
      have : r.length = sz := k4 r (List.mem_of_getElem? hr)
      rcases Nat.lt_or_ge j r.length with h | h
      ·omega
      ·rw [List.getElem?_eq_none h] at h2; cases h2
     have hi : i < rows.length := (List.getElem?_eq_some_iff.1 hr).1
     obtain ⟨u, _, hu⟩ := f1 _ _ (zo8 k4 hr h2)
     show zaj w t v (if j < sz /\ i < rows.length then F (i * sz + j) else [])
     rw [if_pos ⟨hj, hi⟩]
     unfold zaj at hu
     obtain ⟨rfl, hu⟩ := hu
     exact hu
    ·by_cases hp : p.2 < sz /\ p.1 < rows.length
     ·simp only [if_pos hp] at hb; rw [k8]; exact List.mem_cons_of_mem _ (f2 _ _ hb)
     ·simp only [if_neg hp] at hb; simp at hb
    ·by_cases hp : p.2 < sz /\ p.1 < rows.length
     ·simp only [if_pos hp]; exact m1 _
     ·simp only [if_neg hp]; simp
    ·by_cases hp : p.2 < sz /\ p.1 < rows.length
     ·by_cases hp' : p'.2 < sz /\ p'.1 < rows.length
      ·simp only [if_pos hp, if_pos hp'] at hb hb'
       refine m2 _ _ (fun heq => hne ?_) b hb hb'
       obtain ⟨i, j⟩ := p
       obtain ⟨i', j'⟩ := p'
       simp only at hp hp' heq
       have hii : i = i' := by
        rcases Nat.lt_trichotomy i i' with h | h | h
        ·have := Nat.mul_le_mul_right sz (show i + 1 <= i' by omega); rw [Nat.add_mul] at this; omega
        ·exact h
        ·have := Nat.mul_le_mul_right sz (show i' + 1 <= i by omega); rw [Nat.add_mul] at this; omega
       subst hii
       have : j = j' := by omega
       subst this; rfl
      ·simp only [if_neg hp'] at hb'; simp at hb'
     ·simp only [if_neg hp] at hb; simp at hb
  ·refine ⟨fun _ => [], fun dp sz rows gn he => ⟨fun hd => ?_, by simp, by simp, by simp⟩⟩
   subst hd
   exact absurd ⟨sz, rows, gn, he⟩ hon
 refine ⟨fun s => match s.2 with | none => g.φ s.1 | some p => Classical.choose (h1 s.1) p, ⟨fun e => rfl, fun e i j v t ho => ?_, fun e p b ho hb => ?_, fun e p ho => ?_, fun e p p' ho hne b hb => ?_⟩⟩
 ·obtain ⟨⟨dp, sz, rows, gn, on⟩, he, h2, h3, h4, h5⟩ := zan ho
  simp only at h2 h3
  subst h2 h3
  exact (Classical.choose_spec (h1 e) true sz rows gn he).1 rfl i j v t h4 h5
 ·cases p with
  | none => exact hb
  | some p =>
   obtain ⟨⟨dp, sz, rows, gn, on⟩, he, ho⟩ := ho
   simp only at ho
   subst ho
   exact (Classical.choose_spec (h1 e) dp sz rows gn he).2.1 p b hb
 ·cases p with
  | none => exact hR.nodup e ho
  | some p =>
   obtain ⟨⟨dp, sz, rows, gn, on⟩, he, ho⟩ := ho
   simp only at ho
   subst ho
   exact (Classical.choose_spec (h1 e) dp sz rows gn he).2.2.1 p
 ·obtain ⟨⟨dp, sz, rows, gn, on⟩, he, ho⟩ := ho
  simp only at ho
  subst ho
  exact (Classical.choose_spec (h1 e) dp sz rows gn he).2.2.2 p p' hne b hb
def bks (B : Sr -> List Nat) (u : List Sr) : List Nat := u.flatMap B
def okP (s s' : Sr) : Prop := s.1 ≠ s'.1 \/ (s.2 ≠ none /\ s'.2 ≠ none /\ s.2 ≠ s'.2)
theorem okP.symm {s s' : Sr} (h : okP s s') : okP s' s := h.imp (fun h => Ne.symm h) fun h => ⟨h.2.1, h.1, Ne.symm h.2.2⟩
theorem zkk : ∀ {u : List Sr} {s : Sr}, okS u s = true -> ∀ x ∈ u, okP s x
 | [], _, _, x, hx => by simp at hx
 | (e, p) :: u, (e', p'), h, x, hx => by
  unfold okS at h
  rw [Bool.and_eq_true] at h
  rcases List.mem_cons.1 hx with rfl | hx
  ·have h1 := h.1
   by_cases he : e = e'
   ·rw [if_pos he] at h1
    right
    unfold okQ at h1
    split at h1
    ·rename_i a b
     refine ⟨by simp, by simp, fun e => ?_⟩
     simp only [Option.some.injEq] at e
     subst e
     simp at h1
    ·cases h1
   ·left; exact Ne.symm he
  ·exact zkk h.2 x hx
theorem zfm {n0 : Nat -> Prop} {N : Nat} {σ : St} {g : Gh} {a : Act} {w : World} (hR : Rel n0 N σ g a w) {B : Sr -> List Nat} (hB : Fam w σ g B) : ∀ {s : List Sr}, (∀ x ∈ s, σ.On x.1) -> s.Pairwise okP -> (bks B s).Nodup
 | [], _, _ => List.nodup_nil
 | x :: s, ho, hp => by
  obtain ⟨p1, p2⟩ := List.pairwise_cons.1 hp
  unfold bks
  rw [List.flatMap_cons]
  refine List.nodup_append.2 ⟨hB.nodup x.1 x.2 (ho x (by simp)), zfm hR hB (fun y hy => ho y (by simp [hy])) p2, fun b hb b' hb' hbb => ?_⟩
  subst hbb
  obtain ⟨y, hy, hb'⟩ := List.mem_flatMap.1 hb'
  obtain ⟨e, p⟩ := x
  obtain ⟨e', p'⟩ := y
  have o1 := ho (e, p) (by simp)
  have o2 := ho (e', p') (by simp [hy])
  rcases p1 (e', p') hy with h | ⟨h1, h2, h3⟩
  ·exact hR.apart e e' o1 o2 h b (hB.sub e p b o1 hb) (hB.sub e' p' b o2 hb')
  ·by_cases hee : e = e'
   ·subst hee
    cases p with
    | none => exact h1 rfl
    | some p =>
     cases p' with
     | none => exact h2 rfl
     | some p' => exact hB.apart e p p' o1 (fun h => h3 (by rw [h])) b hb hb'
   ·exact hR.apart e e' o1 o2 hee b (hB.sub e p b o1 hb) (hB.sub e' p' b o2 hb')
theorem zr9 {σ : St} {e i j : Nat} {v : Value} {t : T} (h : onN (σ.ev e) i j v t) : σ.On e := by
 obtain ⟨x, hx, h2, _⟩ := zan h
 exact ⟨x, hx, h2⟩
section
variable {n0 : Nat -> Prop} {N : Nat} {σ : St} {g : Gh} {a : Act} {w : World} (hR : Rel n0 N σ g a w) {B : Sr -> List Nat} (hB : Fam w σ g B)
include hR hB
theorem zb6 {K : List Sr -> List (Nat × Nat × Nat) -> Prop} : ∀ {cs : List C} {ts : List T} {u : List Sr} {ps : List (Nat × Nat × Nat)} {vs : List Value}, gvK σ K u ps cs ts -> CRs σ g w cs vs →
  ∃ s ps' tp, K (s.reverse ++ u) ps' /\ zml w ts vs (bks B s) tp /\ (∀ x ∈ s, σ.On x.1) /\ (u.Pairwise okP -> (s.reverse ++ u).Pairwise okP)
 | [], [], u, ps, vs, h, hv => ⟨[], ps, [], h, ⟨hv, rfl, rfl⟩, by simp, fun h => h⟩
 | [], _ :: _, _, _, _, h, _ => by cases h
 | c :: cs, [], u, ps, vs, h, hv => by cases c <;> first | exact (show False from h).elim | (cases ps <;> exact (show False from h).elim)
 | c :: cs, t :: ts, u, ps, vs, h, hv => by
  obtain ⟨v, vs', rfl, h1, h2⟩ := hv
  unfold gvK at h
  split at h
  ·rename_i e1 e2; cases e1
  ·rename_i x cs' t' ts' e1 e2
   cases e1; cases e2
   unfold gvT at h
   split at h
   ·rename_i v0 y e i j ps0
    obtain ⟨rfl, hok, he, h⟩ := h
    obtain ⟨s, ps', tp, k1, k2, k3, k4⟩ := zb6 h h2
    unfold CR zag at h1
    obtain ⟨rfl, _⟩ := h1
    have ho := hB.cell e i j v y he
    refine ⟨(e, some (i, j)) :: s, ps', ze3 y (B (e, some (i, j))) ++ tp, by simpa using k1, ⟨v, vs', _, bks B s, tp, rfl, by unfold bks; rw [List.flatMap_cons], rfl, ho, k2⟩, fun x hx => ?_, fun hu => ?_⟩
    ·rcases List.mem_cons.1 hx with rfl | hx
     ·exact zr9 he
     ·exact k3 x hx
    ·have := k4 (List.pairwise_cons.2 ⟨zkk hok, hu⟩)
     simpa using this
   obtain ⟨rfl, hf, h⟩ := h
   obtain ⟨s, ps', tp, k1, k2, k3, k4⟩ := zb6 h h2
   have ho : zaj w x v [] := by
    cases x <;> simp only [T.flat, Bool.false_eq_true] at hf <;> simp only [CR, zag] at h1 <;> unfold zaj
    ·exact ⟨h1.1, h1.2.1, h1.2.2, rfl⟩
    ·exact ⟨h1, rfl⟩
    ·exact ⟨h1.1, h1.2, rfl⟩
    ·exact ⟨h1, rfl⟩
   exact ⟨s, ps', ze3 x [] ++ tp, k1, ⟨v, vs', [], _, tp, rfl, rfl, rfl, ho, k2⟩, k3, k4⟩
  ·rename_i z cs' sz rows ts' e1 e2
   cases e1; cases e2
   obtain ⟨rfl, h⟩ := h
   obtain ⟨s, ps', tp, k1, k2, k3, k4⟩ := zb6 h h2
   have ho : zaj w (.sl sz []) v [] := by
    unfold zaj
    exact ⟨none, 0, h1, by simp, by simp, Or.inl ⟨rfl, rfl, rfl, rfl⟩⟩
   exact ⟨s, ps', ze3 (.sl sz []) [] ++ tp, k1, ⟨v, vs', [], _, tp, rfl, rfl, rfl, ho, k2⟩, k3, k4⟩
  ·rename_i e gn cs' sz rows ts' e1 e2
   cases e1; cases e2
   obtain ⟨hok, he, h⟩ := h
   obtain ⟨s, ps', tp, k1, k2, k3, k4⟩ := zb6 h h2
   have hou := he
   obtain ⟨⟨dp, sz0, rows0, gn0, on0⟩, hev, rfl, rfl, hrows, rfl, rfl⟩ := zan hou
   have ho : zaj w (.sl sz0 rows) (g.ψ e gn0) (g.φ e) := by
    rcases hrows with rfl | rfl
    ·exact zcg hR hev
    ·exact (zcg hR hev).unpins
   have h1 : v = g.ψ e gn0 /\ _ := h1
   rw [<- h1.1] at ho
   refine ⟨(e, none) :: s, ps', ze3 (.sl _ _) (g.φ e) ++ tp, by simpa using k1, ⟨v, vs', g.φ e, bks B s, tp, rfl, by unfold bks; rw [List.flatMap_cons, hB.whole], rfl, ho, k2⟩, fun x hx => ?_, fun hu => ?_⟩
   ·rcases List.mem_cons.1 hx with rfl | hx
    ·exact ⟨_, hev, rfl⟩
    ·exact k3 x hx
   ·have := k4 (List.pairwise_cons.2 ⟨zkk hok, hu⟩)
    simpa using this
  ·rename_i e i j ps0 v0 cs' t' ts' e1 e2
   cases e1; cases e2
   obtain ⟨hok, he, h⟩ := h
   obtain ⟨s, ps', tp, k1, k2, k3, k4⟩ := zb6 h h2
   have h1 : v = v0 := h1
   subst h1
   have ho := hB.cell e i j v t he
   refine ⟨(e, some (i, j)) :: s, ps', ze3 t (B (e, some (i, j))) ++ tp, by simpa using k1, ⟨v, vs', _, bks B s, tp, rfl, by unfold bks; rw [List.flatMap_cons], rfl, ho, k2⟩, fun x hx => ?_, fun hu => ?_⟩
   ·rcases List.mem_cons.1 hx with rfl | hx
    ·exact zr9 he
    ·exact k3 x hx
   ·have := k4 (List.pairwise_cons.2 ⟨zkk hok, hu⟩)
    simpa using this
  ·exact h.elim
omit hB in
theorem zpl {FP : List Nat} (hFP : ∀ b ∈ FP, ∃ e, σ.On e /\ b ∈ g.φ e) {c : C} {t : T} {v : Value} (h : rdC c t) (hv : CR σ g w c v) : zag w (fun b => b < w.heap.size /\ b ∉ FP) t v := by
 unfold rdC at h
 split at h
 ·rename_i x
  obtain ⟨rfl, hn⟩ := h
  exact zjd (σ := σ) (g := g) (x := .one (.t x)) (d := .one x) ⟨rfl, hn⟩ hv _
 ·rename_i f f'
  subst h
  exact zjd (σ := σ) (g := g) (x := .one (.fn f [])) (d := .one (.fn f [])) rfl hv _
 ·subst h
  refine zag.keep (fun _ _ => rfl) (fun b hb => ⟨hb.1.2.2.1, fun hm => ?_⟩) _ v hv
  obtain ⟨e, ho, hm⟩ := hFP b hm
  exact hb.2 e ho hm
 ·obtain ⟨rfl, rfl⟩ := h
  obtain ⟨b, q, h1, h2, h3⟩ := hv
  have hk : ∀ b, zdd σ g w b -> b < w.heap.size /\ b ∉ FP := fun b hb => ⟨hb.1.2.2.1, fun hm => by obtain ⟨e, ho, hm⟩ := hFP b hm; exact hb.2 e ho hm⟩
  unfold zag
  exact ⟨b, q, h1, hk b h2, zav.keep (fun _ _ => rfl) hk b rfl q _ h3⟩
 ·subst h
  rw [show v = .slice none 0 0 from hv]
  unfold zag
  exact ⟨none, 0, rfl, by simp, by simp, Or.inl rfl⟩
 ·exact h.elim
omit hB in
theorem zjs {FP : List Nat} (hFP : ∀ b ∈ FP, ∃ e, σ.On e /\ b ∈ g.φ e) : ∀ {cs : List C} {ts : List T} {vs : List Value}, rdCs cs ts -> CRs σ g w cs vs -> zaa w (fun b => b < w.heap.size /\ b ∉ FP) ts vs
 | [], [], vs, _, hv => by unfold zaa; exact hv
 | [], _ :: _, _, h, _ => h.elim
 | _ :: _, [], _, h, _ => h.elim
 | c :: cs, t :: ts, vs, h, hv => by
  obtain ⟨v, vs', rfl, h1, h2⟩ := hv
  unfold zaa
  exact ⟨v, vs', rfl, zpl hR hFP h.1 h1, zjs hFP h.2 h2⟩
theorem zc0 {K : List Sr -> Prop} : ∀ {xs : List V} {ds : List (Bool × D)} {u : List Sr} {ps : List (Nat × Nat × Nat)} {vs : List Value}, gvA σ K u ps xs ds -> VRl σ g w xs vs →
  ∃ s, K (s.reverse ++ u) /\ (∀ FP : List Nat, (∀ b ∈ FP, ∃ e, σ.On e /\ b ∈ g.φ e) -> ∃ tp, za6 w (fun b => b < w.heap.size /\ b ∉ FP) ds vs (bks B s) tp) /\ (∀ x ∈ s, σ.On x.1) /\ (u.Pairwise okP -> (s.reverse ++ u).Pairwise okP)
 | [], [], u, ps, vs, h, hv => ⟨[], h, fun _ _ => ⟨[], hv, rfl, rfl⟩, by simp, fun h => h⟩
 | [], _ :: _, _, _, _, h, _ => h.elim
 | x :: xs, [], _, _, _, h, _ => by cases x <;> exact h.elim
 | x :: xs, (false, d) :: ds, u, ps, vs, h, hv => by
  obtain ⟨v, vs', rfl, h1, h2⟩ := hv
  unfold gvA at h
  obtain ⟨hr, h⟩ := h
  obtain ⟨s, k1, k2, k3, k4⟩ := zc0 h h2
  refine ⟨s, k1, fun FP hFP => ?_, k3, k4⟩
  obtain ⟨tp, k2⟩ := k2 FP hFP
  refine ⟨tp, v, vs', rfl, ?_, k2⟩
  unfold rdV at hr
  split at hr
  ·exact zpl hR hFP hr h1
  ·obtain ⟨b, e, h1⟩ := h1; exact ⟨b, e, zjs hR hFP hr h1⟩
  ·exact hr.elim
 | .one c :: xs, (true, .one t) :: ds, u, ps, vs, h, hv => by
  obtain ⟨v, vs', rfl, h1, h2⟩ := hv
  unfold gvA at h
  obtain ⟨s, ps', tp, k1, k2, k3, k4⟩ := zb6 hR hB h (vs := [v]) ⟨v, [], rfl, h1, rfl⟩
  obtain ⟨s', j1, j2, j3, j4⟩ := zc0 k1 h2
  obtain ⟨v0, vs0, f1, f2, t2, e0, e1, rfl, q1, q2⟩ := k2
  cases e0
  obtain ⟨_, rfl, rfl⟩ := q2
  rw [List.append_nil] at e1
  refine ⟨s ++ s', by simpa using j1, fun FP hFP => ?_, fun x hx => ?_, fun hu => by simpa using j4 (k4 hu)⟩
  ·obtain ⟨tp', j2⟩ := j2 FP hFP
   exact ⟨ze3 t f1 ++ tp', v, vs', bks B s, bks B s', _, tp', rfl, by unfold bks; rw [List.flatMap_append], rfl, ⟨by rw [e1]; exact q1, by rw [e1]⟩, j2⟩
  ·rcases List.mem_append.1 hx with hx | hx
   ·exact k3 x hx
   ·exact j3 x hx
 | .agg cs :: xs, (true, .agg ts) :: ds, u, ps, vs, h, hv => by
  obtain ⟨v, vs', rfl, ⟨y, rfl, h1⟩, h2⟩ := hv
  unfold gvA at h
  obtain ⟨s, ps', tp, k1, k2, k3, k4⟩ := zb6 hR hB h h1
  obtain ⟨s', j1, j2, j3, j4⟩ := zc0 k1 h2
  refine ⟨s ++ s', by simpa using j1, fun FP hFP => ?_, fun x hx => ?_, fun hu => by simpa using j4 (k4 hu)⟩
  ·obtain ⟨tp', j2⟩ := j2 FP hFP
   exact ⟨tp ++ tp', _, vs', bks B s, bks B s', tp, tp', rfl, by unfold bks; rw [List.flatMap_append], rfl, ⟨y, rfl, k2⟩, j2⟩
  ·rcases List.mem_append.1 hx with hx | hx
   ·exact k3 x hx
   ·exact j3 x hx
 | .one _ :: _, (true, .agg _) :: _, _, _, _, h, _ => h.elim
 | .agg _ :: _, (true, .one _) :: _, _, _, _, h, _ => h.elim
 | .tup _ :: _, (true, d) :: _, _, _, _, h, _ => by cases d <;> exact h.elim
end
end Go.Proofs.YteeaofpphmhjdaaDoor
namespace Go.Proofs.YteeaofpphmhjdaaDoor
set_option linter.unusedSimpArgs false
set_option linter.unusedVariables false
set_option linter.unusedSectionVars false
set_option maxRecDepth 4000
open Go.RowKit
variable {P : Program}
def C.okU (τ : St) : C -> Prop
 | .t x => x.flat = true
 | .nl _ => True
 | .ow e g => zam (τ.ev e) fun x => g <= x.gen
 | .bx b _ => τ.bx b ≠ none
 | .el _ _ => False
 | .er _ _ => True
 | .eo e s _ _ _ => zam (τ.ev e) fun x => s <= x.gen
 | .fn _ caps => zk6 τ caps
 | .cv _ => True
 | .any => True
 | .rn _ => True
def zsr (τ : St) : List C -> Prop
 | [] => True
 | c :: cs => c.okU τ /\ zsr τ cs
def okUt (τ : St) : List (Bool × List C) -> Prop
 | [] => True
 | x :: xs => zsr τ x.2 /\ okUt τ xs
def V.okU (τ : St) : V -> Prop
 | .one c => c.okU τ
 | .agg cs => zsr τ cs
 | .tup xs => okUt τ xs
structure Kept (σ τ : St) : Prop where
 sl : ∀ i, τ.sl i = .one .any \/ (τ.sl i = σ.sl i /\ (τ.sl i).okU τ)
 bx : ∀ b cs, τ.bx b = some cs -> σ.bx b = some cs /\ zsr τ cs
 ev : ∀ e x, τ.ev e = some x -> σ.ev e = some x /\ x.on = true /\ x.deep = true
section
variable {σ τ : St} {g g' : Gh} {w w' : World} {ev' : Nat -> Option Ev} (hβ : g'.β = g.β) (hψ : ∀ e, τ.ev e ≠ none -> ev' e = τ.ev e /\ g'.ψ e = g.ψ e) (hrn : ∀ b, zdd σ g w b -> w'.heap[b]? = w.heap[b]? /\ zdd ⟨τ.sl, τ.bx, ev'⟩ g' w' b)
include hβ hψ hrn
theorem zme {c : C} {v : Value} (hc : c.okU τ) (h : CR σ g w c v) : CR ⟨τ.sl, τ.bx, ev'⟩ g' w' c v := by
 have hh : ∀ {e n : Nat}, zam (τ.ev e) (fun x => n <= x.gen) -> g'.ψ e = g.ψ e /\ St.has ⟨τ.sl, τ.bx, ev'⟩ e n := fun {e n} ho => by
  obtain ⟨x, hx, hn⟩ := zan ho
  obtain ⟨k1, k2⟩ := hψ e (by rw [hx]; simp)
  exact ⟨k2, x, k1.trans hx, hn⟩
 cases c with
 | t x => exact zdv hc h
 | nl s => exact h
 | ow e n => obtain ⟨k1, k2⟩ := hh hc; exact ⟨by rw [k1]; exact h.1, k2⟩
 | bx b o => exact ⟨by rw [hβ]; exact h.1, hc⟩
 | el cs o => exact hc.elim
 | eo e s sz i o => obtain ⟨k1, k2⟩ := hh hc; obtain ⟨b, n, c, q1, q2, q3, q4⟩ := h; exact ⟨b, n, c, by rw [k1]; exact q1, q2, q3, k2⟩
 | fn f caps => exact ⟨by rw [hβ]; exact h.1, fun b hb => ze4 (show zk6 τ caps from hc) b hb⟩
 | cv u => exact h
 | any => trivial
 | rn x => exact zag.keep (fun b hb => (hrn b hb).1) (fun b hb => (hrn b hb).2) x v h
 | er cs o => obtain ⟨b, q, h1, h2, h3⟩ := h; exact ⟨b, q, h1, (hrn b h2).2, zav.keep (fun b hb => (hrn b hb).1) (fun b hb => (hrn b hb).2) b (hrn b h2).1 q cs h3⟩
theorem zgw : ∀ {cs : List C} {vs : List Value}, zsr τ cs -> CRs σ g w cs vs -> CRs ⟨τ.sl, τ.bx, ev'⟩ g' w' cs vs
 | [], _, _, h => h
 | c :: cs, vs, hc, h => by
  obtain ⟨v, vs', rfl, h1, h2⟩ := h
  exact ⟨v, vs', rfl, zme hβ hψ hrn hc.1 h1, zgw hc.2 h2⟩
theorem zpe : ∀ {xs : List (Bool × List C)} {vs : List Value}, okUt τ xs -> CRt σ g w xs vs -> CRt ⟨τ.sl, τ.bx, ev'⟩ g' w' xs vs
 | [], _, _, h => h
 | x :: xs, vs, hc, h => by
  obtain ⟨v, vs', rfl, h1, h2⟩ := h
  refine ⟨v, vs', rfl, ?_, zpe hc.2 h2⟩
  unfold CRx at h1 ⊢
  split at h1
  ·rw [if_pos ‹_›]; obtain ⟨a, k1, k2⟩ := h1; exact ⟨a, k1, zgw hβ hψ hrn hc.1 k2⟩
  ·rw [if_neg ‹_›]
   obtain ⟨c, k1, k2⟩ := h1
   refine ⟨c, k1, zme hβ hψ hrn ?_ k2⟩
   have := hc.1
   rw [k1] at this
   exact this.1
theorem okU_vr {x : V} {v : Value} (hc : x.okU τ) (h : VR σ g w x v) : VR ⟨τ.sl, τ.bx, ev'⟩ g' w' x v := by
 cases x with
 | one c => exact zme hβ hψ hrn hc h
 | agg cs => obtain ⟨a, k1, k2⟩ := h; exact ⟨a, k1, zgw hβ hψ hrn hc k2⟩
 | tup xs => obtain ⟨a, k1, k2⟩ := h; exact ⟨a, k1, zpe hβ hψ hrn hc k2⟩
end
theorem Rel.given {n0 : Nat -> Prop} {N : Nat} {σ τ : St} {g g' : Gh} {a : Act} {w w' : World} (hR : Rel n0 N σ g a w) (hn0 : LtK n0 w) (hK : Kept σ τ) {fp : List Nat} (hfp : ∀ b ∈ fp, ∃ e, σ.On e /\ τ.ev e = none /\ b ∈ g.φ e) (hbk : Bk (fun k => k < w.heap.size /\ k ∉ fp) w w')
  {ev' : Nat -> Option Ev} {F : List Nat} (hn : New τ g (fun b => b ∈ fp \/ w.heap.size <= b) w' ev' g' F) : Rel n0 N ⟨τ.sl, τ.bx, ev'⟩ g' a w' := by
 have hOnσ : ∀ e, τ.On e -> σ.On e := fun e ⟨x, hx, ho⟩ => ⟨x, (hK.ev e x hx).1, ho⟩
 have hlt : ∀ e, σ.On e -> ∀ b ∈ g.φ e, b < w.heap.size := fun e ⟨x, hx, ho⟩ => (hR.evs e x hx ho).lt
 have hbne : ∀ b, τ.bx b ≠ none -> σ.bx b ≠ none := fun b hb => by
  obtain ⟨cs, hcs⟩ := Option.ne_none_iff_exists'.1 hb
  rw [(hK.bx b cs hcs).1]; simp
 have hfR : ∀ b ∈ fp, g.A0 b /\ g.R0 b /\ ¬ n0 b := fun b hb => by
  obtain ⟨e, ho, _, hm⟩ := hfp b hb
  obtain ⟨k1, k2⟩ := hR.ebase e ho b hm
  exact ⟨k1, k2, hR.etop e ho b hm⟩
 have hNB : ∀ b, (b ∈ fp \/ w.heap.size <= b) -> g.A0 b /\ g.R0 b /\ ¬ n0 b := fun b hb => by
  rcases hb with hb | hb
  ·exact hfR b hb
  ·have hnn := hn0.new hb
   exact ⟨(hR.anew b hnn).1, (hR.anew b hnn).2, hnn⟩
 have hβfp : ∀ b, τ.bx b ≠ none -> ¬ (g.β b ∈ fp \/ w.heap.size <= g.β b) := fun b hb h => by
  rcases h with h | h
  ·obtain ⟨e, ho, _, hm⟩ := hfp _ h
   exact hR.ebx e b ho (hbne b hb) hm
  ·have := hR.lt (hbne b hb); omega
 have hφfp : ∀ e, τ.On e -> ∀ b ∈ g.φ e, ¬ (b ∈ fp \/ w.heap.size <= b) := fun e ho b hb h => by
  rcases h with h | h
  ·obtain ⟨e', ho', hno, hm⟩ := hfp b h
   refine hR.apart e e' (hOnσ e ho) ho' (fun hee => ?_) b hb hm
   subst hee
   obtain ⟨x, hx, _⟩ := ho
   rw [hx] at hno; cases hno
  ·have := hlt e (hOnσ e ho) b hb; omega
 have hon : ∀ e, St.On ⟨τ.sl, τ.bx, ev'⟩ e -> τ.ev e ≠ none -> τ.On e := fun e ⟨x, hx, ho⟩ hee => ⟨x, (hn.old e hee).1.symm.trans hx, ho⟩
 have hkeep : ∀ b, b < w.heap.size -> b ∉ fp -> w'.heap[b]? = w.heap[b]? := fun b h1 h2 => hbk.block b ⟨h1, h2⟩
 have hrn : ∀ b, zdd σ g w b -> w'.heap[b]? = w.heap[b]? /\ zdd ⟨τ.sl, τ.bx, ev'⟩ g' w' b := fun b hb => by
  obtain ⟨hf, hr⟩ := hb
  have hnb : ∀ e, St.On ⟨τ.sl, τ.bx, ev'⟩ e -> b ∉ g'.φ e := fun e ho hm => by
   by_cases hee : τ.ev e = none
   ·obtain ⟨x, hx, _⟩ := ho
    rcases ((hn.new e x hee hx).2.2.1 b hm).1 with h | h
    ·obtain ⟨e', ho', _, hm'⟩ := hfp b h
     exact hr e' ho' hm'
    ·have := hf.2.2.1; omega
   ·rw [(hn.old e hee).2.2] at hm
    exact hr e (hOnσ e (hon e ho hee)) hm
  refine ⟨hkeep b hf.2.2.1 (fun hm => by obtain ⟨e', ho', _, hm'⟩ := hfp b hm; exact hr e' ho' hm'), ⟨fun k hk => by rw [hn.β]; exact hf.1 k (hbne k hk), fun e x hx hon' hh => hnb e ⟨x, hx, hon'⟩ (List.mem_of_mem_head? hh), Nat.lt_of_lt_of_le hf.2.2.1 hbk.size, by rw [hn.A0]; exact hf.2.2.2⟩, hnb⟩
 have hψ : ∀ e, τ.ev e ≠ none -> ev' e = τ.ev e /\ g'.ψ e = g.ψ e := fun e he => ⟨(hn.old e he).1, (hn.old e he).2.1⟩
 refine ⟨by rw [hR.defers], hR.size, by rw [hn.A0, hn.R0]; exact hR.anew, fun i => ?_, fun b cs hb => ?_, fun b hb => by rw [hn.β]; exact hR.base b (hbne b hb), fun b b' h1 h2 h3 => by rw [hn.β] at h3; exact hR.inj b b' (hbne b h1) (hbne b' h2) h3, fun e x he ho => ?_, fun e x he ho => ?_, hn.slc, fun e he b hb => ?_, fun e he b hb => ?_, fun e he => ?_, fun e e' h1 h2 hne b hb1 hb2 => ?_, fun e k he hk hm => ?_⟩
 ·rcases hK.sl i with h | ⟨h, hok⟩
  ·rw [show (⟨τ.sl, τ.bx, ev'⟩ : St).sl i = .one .any from h]; trivial
  ·rw [hn.R0]
   show VR _ g' w' (τ.sl i) _
   have hs := hR.slots i
   rw [<- h] at hs
   exact okU_vr hn.β hψ hrn hok hs
 ·obtain ⟨hb1, hb2⟩ := hK.bx b cs hb
  obtain ⟨vs, ty, k1, k2⟩ := hR.boxes b cs hb1
  have hne : τ.bx b ≠ none := by rw [show τ.bx b = some cs from hb]; simp
  have hnf := hβfp b hne
  exact ⟨vs, ty, by rw [hn.β, hkeep _ (hR.lt (hbne b hne)) (fun h => hnf (Or.inl h))]; exact k1, zgw hn.β hψ hrn hb2 k2⟩
 ·by_cases hee : τ.ev e = none
  ·obtain ⟨⟨k1, _, k0⟩, k2, k3, k4⟩ := hn.new e x hee he
   rw [k0]
   unfold zaj at k2
   obtain ⟨ao, cap, j1, j2, j3, j4⟩ := k2
   refine ⟨ao, cap, j1, j2, j3, ?_⟩
   rcases j4 with j4 | ⟨b, cells, ty, fps, j4, j5, j6, j7, j8⟩
   ·exact Or.inl j4
   ·exact Or.inr ⟨b, cells, ty, fps, j4, j5, j6, j7, by rw [if_pos k1]; exact j8⟩
  ·obtain ⟨o1, o2, o3⟩ := hn.old e hee
   have hx : τ.ev e = some x := o1.symm.trans he
   obtain ⟨k1, k2, k3⟩ := hK.ev e x hx
   have hE := hR.evs e x k1 k2
   have hno := hφfp e ⟨x, hx, k2⟩
   have hl := hlt e ⟨x, k1, k2⟩
   have hkp : ∀ b ∈ g.φ e, w'.heap[b]? = w.heap[b]? := fun b hb => hkeep b (hl b hb) fun h => hno b hb (Or.inl h)
   rw [o2, o3]
   obtain ⟨ao, cap, r1, r2, r3, r4⟩ := hE
   refine ⟨ao, cap, r1, r2, r3, ?_⟩
   rcases r4 with r4 | ⟨b, cells, ty, fps, r4, r5, r6, r7, r8⟩
   ·exact Or.inl r4
   ·rw [if_pos k3] at r8
    exact Or.inr ⟨b, cells, ty, fps, r4, r5, by rw [hkp b (by rw [r5]; simp)]; exact r6, r7, by rw [if_pos k3]; exact zac.keep cells 0 x.sz x.rows fps r8 fun b' hb' => hkp b' (by rw [r5]; simp [hb'])⟩
 ·by_cases hee : τ.ev e = none
  ·rw [(hn.new e x hee he).1.2.1] at ho; cases ho
  ·have hx : τ.ev e = some x := (hn.old e hee).1.symm.trans he
   rw [(hK.ev e x hx).2.1] at ho; cases ho
 ·rw [hn.A0, hn.R0]
  by_cases hee : τ.ev e = none
  ·obtain ⟨x, hx, _⟩ := he
   have := hNB b ((hn.new e x hee hx).2.2.1 b hb).1
   exact ⟨this.1, this.2.1⟩
  ·rw [(hn.old e hee).2.2] at hb
   exact hR.ebase e (hOnσ e (hon e he hee)) b hb
 ·by_cases hee : τ.ev e = none
  ·obtain ⟨x, hx, _⟩ := he
   exact (hNB b ((hn.new e x hee hx).2.2.1 b hb).1).2.2
  ·rw [(hn.old e hee).2.2] at hb
   exact hR.etop e (hOnσ e (hon e he hee)) b hb
 ·by_cases hee : τ.ev e = none
  ·obtain ⟨x, hx, _⟩ := he
   exact (hn.new e x hee hx).2.2.2
  ·rw [(hn.old e hee).2.2]
   exact hR.nodup e (hOnσ e (hon e he hee))
 ·by_cases hee : τ.ev e = none
  ·obtain ⟨x, hx, _⟩ := h1
   by_cases hee' : τ.ev e' = none
   ·obtain ⟨x', hx', _⟩ := h2
    exact hn.apart e e' hee hee' (by rw [show ev' e = some x from hx]; simp) (by rw [show ev' e' = some x' from hx']; simp) hne b hb1 hb2
   ·rw [(hn.old e' hee').2.2] at hb2
    exact hφfp e' (hon e' h2 hee') b hb2 ((hn.new e x hee hx).2.2.1 b hb1).1
  ·rw [(hn.old e hee).2.2] at hb1
   by_cases hee' : τ.ev e' = none
   ·obtain ⟨x', hx', _⟩ := h2
    exact hφfp e (hon e h1 hee) b hb1 ((hn.new e' x' hee' hx').2.2.1 b hb2).1
   ·rw [(hn.old e' hee').2.2] at hb2
    exact hR.apart e e' (hOnσ e (hon e h1 hee)) (hOnσ e' (hon e' h2 hee')) hne b hb1 hb2
 ·rw [hn.β] at hm
  by_cases hee : τ.ev e = none
  ·obtain ⟨x, hx, _⟩ := he
   exact hβfp k hk ((hn.new e x hee hx).2.2.1 _ hm).1
  ·rw [(hn.old e hee).2.2] at hm
   exact hR.ebx e k (hOnσ e (hon e he hee)) (hbne k hk) hm
theorem zoe {o : Oper} {σ τ : St} {x : Operand} {asx : Array Operand} {ts : Array TypeId} {f : FuncId} {cvs : List V} {d : Nat} {ds : List (Bool × D)} {res : List D} {ps : List (Nat × Nat × Nat)} (ho : o.op = .call ⟨.value x, asx, ts⟩) (hd : o.dst = some d)
  (h : GC P f ds res) (hc : zat (σ.get P 0 x) = some (f, cvs)) (hK : Kept σ τ) (hv : gvA σ (fun u => ∀ s ∈ u, τ.ev s.1 = none) [] ps (σ.gets P asx ts ++ cvs) ds) (hf : zd4 d 0 (zaq res) τ.ev) : zab P o σ (τ.callF d res) := by
 intro n0 N g a w hR hn hdN
 obtain ⟨vs, h1, h2⟩ := zdy hR ho hc h.1
 unfold Oper.wp
 rw [h1]
 obtain ⟨B, hB⟩ := hR.fam
 obtain ⟨s, k1, k2, k3, k4⟩ := zc0 hR hB hv h2
 rw [List.append_nil] at k1 k4
 have hsp : s.Pairwise okP := by
  have := (List.pairwise_reverse.1 (k4 List.Pairwise.nil))
  exact this.imp fun h => h.symm
 have hnd := zfm hR hB k3 hsp
 have hfp : ∀ b ∈ bks B s, ∃ e, σ.On e /\ τ.ev e = none /\ b ∈ g.φ e := fun b hb => by
  obtain ⟨x, hx, hm⟩ := List.mem_flatMap.1 hb
  exact ⟨x.1, k3 x hx, k1 x (List.mem_reverse.2 hx), hB.sub x.1 x.2 b (k3 x hx) hm⟩
 obtain ⟨tp, k2⟩ := k2 (bks B s) fun b hb => by obtain ⟨e, h1, _, h3⟩ := hfp b hb; exact ⟨e, h1, h3⟩
 refine (h.2 w vs (bks B s) tp k2 hnd).mono ?_
 rintro e w' ⟨us, fp', tp', rfl, o1, o2, o3, hbk⟩
 have o1' := zd5.of_g o1
 obtain ⟨g', q1, q2, q3⟩ := New.cells (σ := τ) (g := g) (NB := fun b => b ∈ bks B s \/ w.heap.size <= b) (w' := w') d (zaq res) _ fp' 0 τ.ev g [] (New.refl _ _ _ _ hR.slc) (fun e h1 h2 => absurd h1 h2) hf o1'.cells o2 (fun b hb' => ⟨o3 b hb', by simp⟩)
 have hR' := hR.given hn hK hfp hbk q1
 have hBk : Bk n0 w w' := ⟨hbk.os, hbk.tape, hbk.output, hbk.size, fun k hk => hbk.block k ⟨hn k hk, fun hm => by
  obtain ⟨e, h1, _, h3⟩ := hfp k hm
  exact hR.etop e h1 k h3 hk⟩⟩
 refine ⟨g', ?_, hBk, q1.A0, q1.R0⟩
 have hp := hR'.put (some d) (x := zow (zls d 0 res)) (v := zby us) (zhj (zgm d 0 o1' (q3 _ _ rfl)) (zey d res 0)) (fun i hi => by cases hi; exact hdN d hd)
 rw [hd]
 exact hp
def zku {α : Type} : List (Nat × α) -> Nat -> Prop
 | [], _ => True
 | p :: l, i => (i = p.1) = False /\ zku l i
def zdj {α β : Type} (l : List (Nat × β)) : List (Nat × α) -> Prop
 | [] => True
 | p :: la => zku l p.1 /\ zdj l la
def okL (τ : St) : List (Nat × V) -> Prop
 | [] => True
 | p :: l => p.2.okU τ /\ okL τ l
def okB (τ : St) : List (Nat × List C) -> Prop
 | [] => True
 | p :: l => zsr τ p.2 /\ okB τ l
def okE : List (Nat × Ev) -> Prop
 | [] => True
 | p :: l => p.2.on = true /\ p.2.deep = true /\ okE l
def zmz (el : List (Nat × Ev)) : List Sr -> Prop
 | [] => True
 | s :: u => zku el s.1 /\ zmz el u
theorem zfj {α : Type} : ∀ {l : List (Nat × α)} {i : Nat}, zku l i -> tbl l i = none
 | [], _, _ => rfl
 | (j, v) :: l, i, h => by unfold tbl; rw [if_neg (fun e => of_eq_false h.1 e), zfj h.2]
theorem zh7 {el : List (Nat × Ev)} : ∀ {u : List Sr}, zmz el u -> ∀ s ∈ u, tbl el s.1 = none
 | [], _, s, hs => by simp at hs
 | x :: u, h, s, hs => by
  rcases List.mem_cons.1 hs with rfl | hs
  ·exact zfj h.1
  ·exact zh7 h.2 s hs
theorem zf8 : ∀ {l : List (Nat × V)} {i : Nat}, zku l i -> zfn l i = .one .any
 | [], _, _ => rfl
 | (j, v) :: l, i, h => by unfold zfn; rw [if_neg (fun e => of_eq_false h.1 e), zf8 h.2]
theorem zkg {l : List (Nat × V)} : ∀ {la : List (Nat × V)}, zdj l la -> ∀ i, zfn l i = .one .any \/ zfn l i = zfn (la ++ l) i
 | [], _, i => Or.inr rfl
 | (j, v) :: la, h, i => by
  by_cases hij : i = j
  ·subst hij; exact Or.inl (zf8 h.1)
  ·rw [List.cons_append]
   show _ \/ zfn l i = if i = j then v else zfn (la ++ l) i
   rw [if_neg hij]
   exact zkg h.2 i
theorem zjh {α : Type} {l : List (Nat × α)} : ∀ {la : List (Nat × α)}, zdj l la -> ∀ i x, tbl l i = some x -> tbl (la ++ l) i = some x
 | [], _, i, x, hx => hx
 | (j, v) :: la, h, i, x, hx => by
  by_cases hij : i = j
  ·subst hij; rw [zfj h.1] at hx; cases hx
  ·rw [List.cons_append]
   show (if i = j then some v else tbl (la ++ l) i) = some x
   rw [if_neg hij]
   exact zjh h.2 i x hx
theorem zn5 {τ : St} : ∀ {l : List (Nat × V)}, okL τ l -> ∀ i, (zfn l i).okU τ
 | [], _, _ => trivial
 | (j, v) :: l, h, i => by
  unfold zfn
  split
  ·exact h.1
  ·exact zn5 h.2 i
theorem zmv {τ : St} : ∀ {l : List (Nat × List C)}, okB τ l -> ∀ b cs, tbl l b = some cs -> zsr τ cs
 | [], _, _, _, h => by cases h
 | (j, v) :: l, h, b, cs, hb => by
  unfold tbl at hb
  split at hb
  ·cases hb; exact h.1
  ·exact zmv h.2 b cs hb
theorem zl6 : ∀ {l : List (Nat × Ev)}, okE l -> ∀ e x, tbl l e = some x -> x.on = true /\ x.deep = true
 | [], _, _, _, h => by cases h
 | (j, v) :: l, h, e, x, hb => by
  unfold tbl at hb
  split at hb
  ·cases hb; exact ⟨h.1, h.2.1⟩
  ·exact zl6 h.2.2 e x hb
section
variable {ks : List Fr} {Q : Exit -> St -> Prop} {σ : St} {ops : Array Oper} {os : List Oper} {ty : TypeId} {ps : String} {af : Array Edge} {d : Nat} {x : Operand} {asx : Array Operand} {ts : Array TypeId} {f : FuncId} {ds : List (Bool × D)} {res : List D}
theorem zus (la l : List (Nat × V)) (ba bl : List (Nat × List C)) (ea el : List (Nat × Ev)) (pl : List (Nat × Nat × Nat)) (h : GC P f ds res)
  (hw : wkL σ (hd (la ++ l) (ba ++ bl) (ea ++ el)) (la ++ l) /\ wkB σ (hd (la ++ l) (ba ++ bl) (ea ++ el)) (ba ++ bl) /\ wkE σ (ea ++ el))
  (hk : zdj l la /\ zdj bl ba /\ zdj el ea /\ okL (hd l bl el) l /\ okB (hd l bl el) bl /\ okE el)
  (hp : zam (zat ((hd (la ++ l) (ba ++ bl) (ea ++ el)).get P 0 x)) fun p => p.1 = f /\ gvA (hd (la ++ l) (ba ++ bl) (ea ++ el)) (zmz el) [] pl ((hd (la ++ l) (ba ++ bl) (ea ++ el)).gets P asx ts ++ p.2) ds) (hf : zd4 d 0 (zaq res) (hd l bl el).ev)
  (k : exo P ops os ks Q ((hd l bl el).callF d res)) : exo P ops (⟨some d, .call ⟨.value x, asx, ts⟩, ty, ps, af, none⟩ :: os) ks Q σ := by
 obtain ⟨⟨f', cvs⟩, h1, rfl, h2⟩ := zan hp
 obtain ⟨k1, k2, k3, k4, k5, k6⟩ := hk
 refine zcw rfl rfl (zab.pre (zah hw) (zoe (P := P) (o := ⟨some d, .call ⟨.value x, asx, ts⟩, ty, ps, af, none⟩) rfl rfl h h1 (τ := hd l bl el) ⟨fun i => ?_, fun b cs hb => ⟨zjh k2 b cs hb, zmv k5 b cs hb⟩, fun e x he => ⟨zjh k3 e x he, zl6 k6 e x he⟩⟩ (ze1 (fun u hu => zh7 hu) h2) hf)) k
 rcases zkg k1 i with h | h
 ·exact Or.inl h
 ·exact Or.inr ⟨h, zn5 k4 i⟩
end
attribute [go_sem] gvT owU zdk zig zku zdj okL okB okE zmz C.okU zsr okUt V.okU gvA gvK okS okQ rdV rdC rdCs
end Go.Proofs.YteeaofpphmhjdaaDoor
namespace Go.Proofs.YteeaofpphmhjdaaDoor
set_option linter.unusedSimpArgs false
set_option linter.unusedVariables false
set_option linter.unusedSectionVars false
set_option maxRecDepth 4000
open Go.RowKit
variable {P : Program}
def litRs : Option (Nat × List (List C)) -> List (List C)
 | some p => p.2
 | none => []
def blK (d : Nat) : Option (Ev × List (Nat × Ev)) -> List (Nat × Ev)
 | some (x, cons) => (d * 32, x) :: zpx cons
 | none => []
def apKs : Option (Prop × Nat × Ev × List (Nat × Ev)) -> List Ky
 | some (_, e, _, cons) => (2, e) :: cons.map (fun p => (2, p.1))
 | none => []
section
variable {ks : List Fr} {Q : Exit -> St -> Prop} {σ : St} {ops : Array Oper} {os : List Oper} {L : List (List Ky × List Ky)} {d : Nat} {t : TypeId} {ty : TypeId} {ps : String} {af : Array Edge} {len : Nat} {parts : Array (Nat × Operand)} {s y : Operand}
theorem zhf (h : zam (blD P σ t len parts) fun r => σ.ev (d * 32) = none /\ (r.2.map (·.1)).Nodup)
  (k : exd P ops os (L ++ [(zak (parts.toList.map (·.2)) ++ (rK (litRs (zlq P (σ.get P) t len parts)) ++ [(2, d * 32)]), dK (some d) ++ eK (blK d (blD P σ t len parts)))]) ks Q ((σ.bl d (blD P σ t len parts)).put (some d) (.one (.ow (d * 32) 0)))) :
  exd P ops (⟨some d, .buildSlice t len parts, ty, ps, af, none⟩ :: os) L ks Q σ := by
 obtain ⟨⟨x, cons⟩, h1, h2, h3⟩ := zan h
 rw [h1] at k
 unfold blD at h1
 obtain ⟨p, e1, h1⟩ := Option.bind_eq_some_iff.1 h1
 obtain ⟨q, e2, h1⟩ := Option.map_eq_some_iff.1 h1
 simp only [Prod.mk.injEq] at h1
 obtain ⟨rfl, rfl⟩ := h1
 rw [e1] at k
 exact zs7 ⟨e1, e2, h2, h3⟩ k
theorem dApD (dp2 : Bool) (h : zam (apV P σ d t s y dp2) fun r => r.1) (k : exd P ops os (L ++ [(zak [s, y] ++ apKs (apV P σ d t s y dp2), dK (some d) ++ apKs (apV P σ d t s y dp2))]) ks Q (σ.apV d (apV P σ d t s y dp2))) :
  exd P ops (⟨some d, .call ⟨.builtin .append, #[s, y], #[t, t]⟩, ty, ps, af, none⟩ :: os) L ks Q σ := by
 obtain ⟨⟨p, e, x, cons⟩, h1, h2⟩ := zan h
 rw [h1] at k
 unfold Go.Proofs.YteeaofpphmhjdaaDoor.apV at h1
 split at h1
 ·rename_i e0 gn e2 gn2 hs hy
  obtain ⟨x0, k1, h3⟩ := Option.bind_eq_some_iff.1 h1
  obtain ⟨z, k2, h4⟩ := Option.bind_eq_some_iff.1 h3
  clear h1 h3
  by_cases hc : x0.gen = gn /\ x0.on = true /\ z.gen = gn2 /\ z.on = true /\ z.sz = x0.sz /\ e2 ≠ e0
  ·rw [if_pos hc] at h4
   obtain ⟨rfl, c2, rfl, c4, c5, c6⟩ := hc
   simp only [Option.some.injEq, Prod.mk.injEq] at h4
   obtain ⟨rfl, rfl, rfl, rfl⟩ := h4
   obtain ⟨dp, sz, rows, gn, on⟩ := x0
   obtain ⟨dp2, sz2, rows2, gn2, on2⟩ := z
   simp only at c2 c4 c5
   subst c2 c4 c5
   exact dApOO ⟨hs, zr2 hy, k1, k2, c6, rfl⟩ h2.1 h2.2 k
  ·rw [if_neg hc] at h4; cases h4
 ·rename_i e0 gn sz rows2 hs hy
  obtain ⟨x0, k1, h4⟩ := Option.bind_eq_some_iff.1 h1
  clear h1
  by_cases hc : x0.gen = gn /\ x0.on = true /\ sz = x0.sz
  ·rw [if_pos hc] at h4
   obtain ⟨rfl, c2, rfl⟩ := hc
   simp only [Option.some.injEq, Prod.mk.injEq] at h4
   obtain ⟨rfl, rfl, rfl, rfl⟩ := h4
   obtain ⟨dp, sz, rows, gn, on⟩ := x0
   simp only at c2
   subst c2
   exact dApOT dp2 ⟨hs, hy, k1⟩ (fun hd => ze9 (h2.2.2 hd)) h2.1 h2.2.1 k
  ·rw [if_neg hc] at h4; cases h4
 ·rename_i z0 e2 gn2 hs hy
  obtain ⟨z, k2, h4⟩ := Option.bind_eq_some_iff.1 h1
  clear h1
  by_cases hc : z.gen = gn2 /\ z.on = true /\ e2 ≠ d * 32
  ·rw [if_pos hc] at h4
   obtain ⟨rfl, c2, c3⟩ := hc
   simp only [Option.some.injEq, Prod.mk.injEq] at h4
   obtain ⟨rfl, rfl, rfl, rfl⟩ := h4
   obtain ⟨dp2, sz2, rows2, gn2, on2⟩ := z
   simp only at c2
   subst c2
   exact dApNO ⟨hs, zr2 hy, h2.2.2, k2, c3⟩ h2.1 h2.2.1 k
  ·rw [if_neg hc] at h4; cases h4
 ·rename_i z0 sz rows2 hs hy
  simp only [Option.some.injEq, Prod.mk.injEq] at h1
  obtain ⟨rfl, rfl, rfl, rfl⟩ := h1
  exact dApNT dp2 ⟨hs, hy, h2.2.2.2⟩ (fun hd => ze9 (h2.2.2.1 hd)) h2.1 h2.2.1 k
 ·cases h1
end
attribute [go_sem] litRs blK apKs
end Go.Proofs.YteeaofpphmhjdaaDoor
namespace Go.Proofs.YteeaofpphmhjdaaDoor
set_option linter.unusedSimpArgs false
set_option linter.unusedVariables false
set_option linter.unusedSectionVars false
set_option maxRecDepth 4000
open Go.RowKit
variable {P : Program}
def PX (P : Program) (rs : List ResultVar) (res : List D) (σ : St) : Prop := ∃ pl, zam (zbl P σ rs) fun vs => gvA σ (fun _ => True) [] pl vs (res.map fun d => (true, d))
def PS (P : Program) (rs : List ResultVar) (res : List D) (e : Exit) (σ : St) : Prop := match e with
 | .normal => PF P rs res .normal σ \/ PX P rs res σ
 | .ret => PF P rs res .ret σ \/ PX P rs res σ
 | _ => False
theorem zef {w : World} {A : Nat -> Prop} : ∀ {res : List D} {vs : List Value} {fp tp : List Nat}, za6 w A (res.map fun d => (true, d)) vs fp tp -> GDs w res vs fp tp
 | [], _, _, _, h => h
 | d :: ds, _, _, _, h => by
  obtain ⟨v, vs', f1, f2, t1, t2, rfl, rfl, rfl, h1, h2⟩ := h
  exact ⟨v, vs', f1, f2, t1, t2, rfl, rfl, rfl, h1, zef h2⟩
theorem zsm {n0 : Nat -> Prop} {N : Nat} {σ : St} {g : Gh} {a : Act} {w : World} (hR : Rel n0 N σ g a w) {vs : List V} {res : List D} {pl : List (Nat × Nat × Nat)} (h : gvA σ (fun _ => True) [] pl vs (res.map fun d => (true, d))) {us : List Value} (hv : VRl σ g w vs us) :
  ∃ fp tp, GDs w res us fp tp /\ fp.Nodup /\ ∀ b ∈ fp, ∃ e, σ.On e /\ b ∈ g.φ e := by
 obtain ⟨B, hB⟩ := hR.fam
 obtain ⟨s, k1, k2, k3, k4⟩ := zc0 hR hB h hv
 rw [List.append_nil] at k4
 have hsp : s.Pairwise okP := (List.pairwise_reverse.1 (k4 List.Pairwise.nil)).imp fun h => h.symm
 obtain ⟨tp, k2⟩ := k2 [] (by simp)
 refine ⟨_, tp, zef k2, zfm hR hB k3 hsp, fun b hb => ?_⟩
 obtain ⟨x, hx, hm⟩ := List.mem_flatMap.1 hb
 exact ⟨x.1, k3 x hx, hB.sub x.1 x.2 b (k3 x hx) hm⟩
theorem zsu {f : FuncId} {fn : Func} {c : Code} {args : List (Bool × D)} {res : List D} (hc : zay P f) (hf : P.funcs[f]? = some fn) (hb : fn.body = some c) (hd : za5 fn.ntmps c = true) (hN : args.length <= fn.ntmps) (hs : zb7 args)
  (h : ∀ (w : World) (vs : List Value) (fp tp : List Nat), za6 w (fun b => b < w.heap.size /\ b ∉ fp) args vs fp tp -> ∀ (g : Gh) (a : Act), Rel (fun b => b < w.heap.size /\ b ∉ fp) fn.ntmps (zdl args) g a w -> (a.tmps = (⟨vs⟩ : Array Value) ++ Array.replicate (fn.ntmps - vs.length) undef /\ (g.A0, g.R0) = ((fun _ => True), RP.of fun b => b ∈ fp \/ w.heap.size <= b)) →
   ∃ σ0, ex P c [] (PS P fn.results.toList res) σ0 /\ Rel (fun b => b < w.heap.size /\ b ∉ fp) fn.ntmps σ0 g a w) : GC P f args res := by
 refine ⟨hc, fun w vs fp tp hv hn => ?_⟩
 refine calls_of_wp hf hb ?_
 have hv' : za6 w (fun b => b < w.heap.size /\ True /\ b ∉ fp) args vs fp tp := za6.keepA (fun b hb => ⟨hb.1, trivial, hb.2⟩) hv
 obtain ⟨g, hg, hR⟩ := Rel.start (A0 := fun _ => True) (R0 := RP.of fun b => b ∈ fp \/ w.heap.size <= b) (N := fn.ntmps) hv' hn hs hN (fun _ _ => trivial) (fun b hb => ⟨trivial, Or.inl hb⟩) (fun b hb => ⟨trivial, by
  by_cases hlt : b < w.heap.size
  ·exact Or.inl (Classical.byContradiction fun h => hb ⟨hlt, h⟩)
  ·exact Or.inr (by omega)⟩)
 obtain ⟨σ0, hex, hR0⟩ := h w vs fp tp hv g _ hR ⟨rfl, hg⟩
 refine wp_mono (za9 (w0 := w) c σ0 _ hd hex g _ w hR0 (fun k hk => hk.1) (Bk.refl _ _) hg) fun e a' w' hq => ?_
 obtain ⟨σ', g', h1, h2, h3, h4, h5⟩ := hq
 have fin : ∀ {us : List Value} {v : Value}, (results fn a'.tmps).run P w' = .ok v w' -> v = zby us -> (∃ fp' tp', GDs w' res us fp' tp' /\ fp'.Nodup /\ ∀ b ∈ fp', ∃ e, σ'.On e /\ b ∈ g'.φ e) -> ∃ v, (results fn a'.tmps).run P w' = .ok v w' /\ ∃ us fp' tp', Ending.returned v = .returned (zby us) /\ GDs w' res us fp' tp' /\ fp'.Nodup /\ (∀ b ∈ fp', b ∈ fp \/ w.heap.size <= b) /\ Bk (fun k => k < w.heap.size /\ k ∉ fp) w w' := fun {us v} r1 rv ⟨fp', tp', o1, o2, o3⟩ => by
  refine ⟨_, r1, us, fp', tp', by rw [rv], o1, o2, fun b hb => ?_, h4⟩
  obtain ⟨e, l, m⟩ := o3 b hb
  have := (h2.ebase e l b m).2
  rw [(Prod.mk.inj h5).2] at this
  exact this
 have key : (zam (zbl P σ' fn.results.toList) (fun vs => zk5 σ' [] vs res) \/ PX P fn.results.toList res σ') -> ∃ v, (results fn a'.tmps).run P w' = .ok v w' /\ ∃ us fp' tp', Ending.returned v = .returned (zby us) /\ GDs w' res us fp' tp' /\ fp'.Nodup /\ (∀ b ∈ fp', b ∈ fp \/ w.heap.size <= b) /\ Bk (fun k => k < w.heap.size /\ k ∉ fp) w w' := fun hk => by
  rcases hk with hk | ⟨pl, hk⟩
  ·obtain ⟨vs, hvs, hk⟩ := zan hk
   obtain ⟨us, r1, r2⟩ := zbr h2 fn hvs
   obtain ⟨used, fp', tp', o1, o2⟩ := zb2 h2 hk r2
   exact fin r1 rfl ⟨fp', tp', o1, o2.1, fun b hb => by obtain ⟨e, _, _, l, m⟩ := o2.2.1 b hb; exact ⟨e, l, m⟩⟩
  ·obtain ⟨vs, hvs, hk⟩ := zan hk
   obtain ⟨us, r1, r2⟩ := zbr h2 fn hvs
   exact fin r1 rfl (zsm h2 hk r2)
 cases e with
 | normal => exact ⟨h2.defers, key h1⟩
 | ret => exact ⟨h2.defers, key h1⟩
 | exit _ => exact h1.elim
 | goto _ => exact h1.elim
 | panic _ => exact h1.elim
 | outgrown => exact h1.elim
theorem zqz (p : Prop) : (p \/ True) = True := by simp
theorem zp3 (p : Prop) : (True \/ p) = True := by simp
theorem zm1 {α : Type} (x : α) (xs : List α) (d : α) : (x :: xs).getD 0 d = x := rfl
attribute [go_sem] zm1
attribute [go_sem] Bool.false_and Bool.and_false Bool.and_self
attribute [go_sem] PS zqz zp3
section
variable (A B : List (List T)) (r : List T)
theorem zp4 {k : Nat} (h : A.length = k) : (A ++ r :: B).getD k [] = r := by subst h; simp
theorem zur {k : Nat} (h : A.length = k) : (A ++ r :: B)[k]? = some r := by subst h; simp
theorem zpc {k : Nat} (h : A.length = k) (o : Nat) (ts : List T) : zcm (A ++ r :: B) k o ts = A ++ setR r o ts :: B := by subst h; simp [zcm]
theorem zji {k : Nat} (h : A.length = k) (j : Nat) (t : T) : zgy (A ++ r :: B) k j t = A ++ r.set j t :: B := by subst h; simp [zgy]
end
theorem zk9 (vs : Nat -> Nat -> Value) (i : Nat) (r : List T) (rs : List (List T)) : zdc vs i (r :: rs) = zps (vs i) 0 r :: zdc vs (i + 1) rs := rfl
theorem zm5 (us : Nat -> Value) (j : Nat) (c : T) (cs : List T) : zps us j (c :: cs) = ztv (us j) c :: zps us (j + 1) cs := rfl
theorem zqt (us : Nat -> Value) (j : Nat) : zps us j [] = [] := rfl
theorem zun (v : Value) (sz : Nat) (rows : List (List T)) : ztv v (.sl sz rows) = .pin v (.sl sz rows) := rfl
theorem zrp (v : Value) (k : IntKind) (n : Int) : ztv v (.int k n) = .int k n := rfl
theorem zqo (v : Value) (s : List UInt8) : ztv v (.str s) = .str s := rfl
theorem zo0 (vs : Nat -> Nat -> Value) (i : Nat) : zdc vs i [] = [] := rfl
theorem zi2 (n m : Nat) : (n < n + (m + 1)) = True := by simp
attribute [go_sem] PI zi2 zo0 zk9 zm5 zqt zun zrp zqo zdw List.length_append zur zp4 zpc zji
theorem ztg (n : Nat) : ((n : Int) < 0) = False := by simp
attribute [go_sem] ztg List.set_cons_succ List.set_cons_zero
end Go.Proofs.YteeaofpphmhjdaaDoor
namespace Go.Proofs.YteeaofpphmhjdaaDoor
set_option linter.unusedSimpArgs false
set_option linter.unusedVariables false
set_option linter.unusedSectionVars false
set_option maxRecDepth 4000
open Go.RowKit
variable {P : Program}
def D.toN : D -> V
 | .one t => .one t.toN
 | .agg ts => .agg (ts.map T.toN)
def zek : Nat -> List D -> Nat -> V
 | _, [] => fun _ => .one .any
 | k, d :: ds => upd (zek (k + 1) ds) k d.toN
def zet (args : List D) : St := ⟨zek 0 args, fun _ => none, fun _ => none⟩
theorem zh4 : ∀ (ds : List D) (k i : Nat), zek k ds (k + i) = match ds[i]? with | some d => d.toN | none => .one .any
 | [], k, i => by simp [zek]
 | d :: ds, k, 0 => by simp [zek, upd]
 | d :: ds, k, i + 1 => by
  unfold zek
  rw [zaf _ _ (by omega), show k + (i + 1) = k + 1 + i by omega, zh4 ds (k + 1) i]
  simp
theorem zoh {σ : St} {g : Gh} {w : World} {A : Nat -> Prop} (hA : ∀ b, A b -> zdd σ g w b) {x : T} {v : Value} (h : zag w A x v) : CR σ g w x.toN v := by
 cases x <;> first | exact zag.keep (fun _ _ => rfl) (fun b hb => (hA b hb).1) _ v h | exact zag.keep (fun _ _ => rfl) hA _ v h
theorem zir {σ : St} {g : Gh} {w : World} {A : Nat -> Prop} (hA : ∀ b, A b -> zdd σ g w b) : ∀ {ts : List T} {vs : List Value}, zaa w A ts vs -> CRs σ g w (ts.map T.toN) vs
 | [], vs, h => by unfold zaa at h; exact h
 | t :: ts, vs, h => by
  unfold zaa at h
  obtain ⟨v, vs', rfl, h1, h2⟩ := h
  exact ⟨v, vs', rfl, zoh hA h1, zir hA h2⟩
theorem zst {σ : St} {g : Gh} {w : World} {A : Nat -> Prop} (hA : ∀ b, A b -> zdd σ g w b) {d : D} {v : Value} (h : znx w A d v) : VR σ g w d.toN v := by
 cases d with
 | one t => exact zoh hA h
 | agg ts => obtain ⟨a, h0, h1⟩ := h; exact ⟨a, h0, zir hA h1⟩
theorem za2.at {w : World} {A : Nat -> Prop} : ∀ {ds : List D} {vs : List Value}, za2 w A ds vs -> ∀ (i : Nat) d, ds[i]? = some d -> ∃ v, vs[i]? = some v /\ znx w A d v
 | [], _, _, i, d, h => by simp at h
 | d0 :: ds, vs, h, 0, d, hi => by
  obtain ⟨v, vs', rfl, h1, h2⟩ := h
  simp only [List.getElem?_cons_zero, Option.some.injEq] at hi
  subst hi; exact ⟨v, rfl, h1⟩
 | d0 :: ds, vs, h, i + 1, d, hi => by
  obtain ⟨v, vs', rfl, h1, h2⟩ := h
  simpa using za2.at h2 i d (by simpa using hi)
theorem zbu {w : World} {A : Nat -> Prop} : ∀ {ds : List D} {vs : List Value} {fp tp : List Nat}, za6 w A (rd ds) vs fp tp -> za2 w A ds vs /\ fp = [] /\ tp = []
 | [], _, _, _, h => ⟨h.1, h.2.1, h.2.2⟩
 | d :: ds, _, _, _, h => by
  obtain ⟨v, vs', rfl, h1, h2⟩ := h
  obtain ⟨k1, k2, k3⟩ := zbu h2
  exact ⟨⟨v, vs', rfl, h1, k1⟩, k2, k3⟩
theorem zia {args : List D} {w : World} {vs : List Value} {N : Nat} {g : Gh} {a : Act} (hr : za2 w (fun b => b < w.heap.size /\ b ∉ ([] : List Nat)) args vs) (hR : Rel (fun b => b < w.heap.size /\ b ∉ ([] : List Nat)) N (zdl (rd args)) g a w)
  (hg : a.tmps = (⟨vs⟩ : Array Value) ++ Array.replicate (N - vs.length) undef /\ (g.A0, g.R0) = ((fun _ => True), RP.of fun b => b ∈ ([] : List Nat) \/ w.heap.size <= b)) : Rel (fun b => b < w.heap.size /\ b ∉ ([] : List Nat)) N (zet args) g a w := by
 have hbx : ∀ (ds : List D) (k : Nat), zd6 k (rd ds) = fun _ => none := fun ds => by
  induction ds with
  | nil => intro k; rfl
  | cons d ds ih => intro k; exact ih (k + 1)
 have hG : ∀ b, (b < w.heap.size /\ b ∉ ([] : List Nat)) -> zdd (zet args) g w b := fun b hb => by
  refine ⟨⟨fun k hk => absurd rfl hk, fun e x he _ => (by cases he), hb.1, by rw [(Prod.mk.inj hg.2).1]; trivial⟩, ?_⟩
  rintro e ⟨x, hx, _⟩
  cases hx
 refine hR.slots_of (σ' := zet args) rfl ?_ hR.defers hR.size fun i => ?_
 ·show (fun _ => none) = zd6 0 (rd args)
  rw [hbx]
 ·have hm : Mv (zet args) (zet args) g g w w := Mv.of_eq g w rfl rfl
  show VR (zdl (rd args)) g w (zek 0 args i) _
  have hi := zh4 args 0 i
  rw [Nat.zero_add] at hi
  rw [hi]
  cases hd : args[i]? with
  | none => trivial
  | some d =>
   obtain ⟨v, hv1, hv2⟩ := za2.at hr i d hd
   have hlt : i < vs.length := (List.getElem?_eq_some_iff.1 hv1).1
   have e : a.tmps.getD i (g.R0.ξ i) = v := by
    rw [hg.1]
    rw [Array.getD_eq_getD_getElem?, Array.getElem?_append_left (by simpa using hlt)]
    simp [hv1]
   rw [e]
   have hx := zst hG hv2
   exact (Mv.of_eq (σ := zet args) (σ' := zdl (rd args)) g w rfl (by show zd6 0 (rd args) = fun _ => none; rw [hbx])).vr hx
theorem zjx {f : FuncId} {fn : Func} {c : Code} {args res : List D} (hc : zay P f) (hf : P.funcs[f]? = some fn) (hb : fn.body = some c) (hd : za5 fn.ntmps c = true) (hN : (rd args).length <= fn.ntmps)
  (h : ex P c [] (PS P fn.results.toList res) (zet args)) : FC P f args res := by
 refine zsu hc hf hb hd hN (zbx args) fun w vs fp tp hv g a hR hg => ?_
 obtain ⟨hr, rfl, rfl⟩ := zbu hv
 exact ⟨zet args, h, zia hr hR hg⟩
attribute [go_sem] zet zek D.toN T.toN
end Go.Proofs.YteeaofpphmhjdaaDoor
namespace Go.Proofs.YteeaofpphmhjdaaDoor
set_option linter.unusedSimpArgs false
set_option linter.unusedVariables false
set_option linter.unusedSectionVars false
set_option maxRecDepth 4000
open Go.RowKit
variable {P : Program}
abbrev FR (r : Option Nat) : Fence := { Fence.wide with round := r }
theorem zc6 {r : Option Nat} {n : Nat} {f : FuncId} {args : Array Value} {w : World} {R : Ending -> World -> Prop} : CallsIn (FR r) n P f args w R ↔ Calls P f args w R :=
 (callsIn_wide (n := n) : CallsIn Fence.wide n P f args w R ↔ _)
def Oper.nodef (o : Oper) : Bool := match o.op with | .defer _ => false | _ => true
theorem zrt {o : Oper} (h : Oper.nodef o = true) : ∀ c, o.op ≠ .defer c := fun c hc => by simp [Oper.nodef, hc] at h
theorem zb1 (a : Act) (d : Option Nat) (v : Value) (ds : List Deferred) : ({ a with defers := ds } : Act).put d v = { a.put d v with defers := ds } := by cases d <;> rfl
theorem zix (a : Act) (d : Option Nat) (v : Value) : (a.put d v).defers = a.defers := by cases d <;> rfl
theorem operIn {r : Option Nat} {n : Nat} {o : Oper} {a : Act} {w : World} {K : Act -> World -> Prop} {ds : List Deferred} {K' : Act -> World -> Prop} {Q : Exit -> Act -> World -> Prop} (hnd : Oper.nodef o = true) (hK : ∀ a w, K a w -> a.defers = []) (h : o.wp P a w K (fun _ _ _ => False))
  (hK' : ∀ v w', K (a.put o.dst v) w' -> K' { a.put o.dst v with defers := ds } w') : o.wpIn (FR r) n P { a with defers := ds } w K' Q := by
 unfold Oper.wp at h
 refine ⟨fun _ _ => trivial, ?_⟩
 rw [Oper.semAt_eq _ _ _ (zrt hnd)]
 show o.uponIn (FR r) n P { a with defers := ds } K' Q ((execOp a.eval o).run P w)
 generalize (execOp a.eval o).run P w = x at h
 cases x with
 | ok nx w' =>
  cases nx with
  | value v => show K' _ _; rw [zb1]; exact hK' v w' h
  | skip => show K' _ _; rw [zb1]; exact hK' _ w' h
  | defer d => exact absurd (hK _ _ h) (by rw [zix]; simp)
  | enter f args =>
   refine ⟨(by intro h; cases h), zc6.2 (Calls.mono h fun e w'' he => ?_)⟩
   cases e with
   | returned v => show K' _ _; rw [zb1]; exact hK' v w'' he
   | panicked c => exact he.elim
   | outgrown => obtain ⟨_, _, hx⟩ := he; exact hx.elim
  | row row args =>
   refine ⟨(by intro h; cases h), fun c cs _ => ?_⟩
   obtain ⟨v, w'', h1, h2⟩ := h c cs
   refine ⟨v, w'', ?_, stepsIn_wide.2 h2⟩
   show K' _ _; rw [zb1]; exact hK' v w'' h1
  | _ => exact (show False from h).elim
 | halt x w' => cases x <;> exact (show False from h).elim
def Ag (D : Nat -> Prop) (a a' : Act) : Prop := ∀ i, ¬ D i -> a'.tmps.getD i undef = a.tmps.getD i undef
theorem Ag.refl (D : Nat -> Prop) (a : Act) : Ag D a a := fun _ _ => rfl
theorem Ag.put {D : Nat -> Prop} {a0 a : Act} (h : Ag D a0 a) {d : Option Nat} (hd : ∀ i, d = some i -> D i) (v : Value) : Ag D a0 (a.put d v) := fun i hi => by
 cases d with
 | none => exact h i hi
 | some j =>
  have hij : i ≠ j := fun e => hi (e ▸ hd j rfl)
  rw [show (a.put (some j) v).tmps = a.tmps.setIfInBounds j v from rfl, zeg a hij]
  exact h i hi
def EndsD (n0 : Nat -> Prop) (N : Nat) (w0 : World) (A0 : (Nat -> Prop) × RP) (ds : List Deferred) (D : Nat -> Prop) (a0 : Act) (Q : Exit -> St -> Prop) (e : Exit) (a : Act) (w : World) : Prop := ∃ a1, a = { a1 with defers := ds } /\ Ag D a0 a1 /\ Ends n0 N w0 A0 Q e a1 w
theorem zf0 {ops : Array Oper} {K : St -> Prop} {n0 : Nat -> Prop} {N : Nat} {w0 : World} {A0 : (Nat -> Prop) × RP} {r : Option Nat} {n : Nat} {ds : List Deferred} {D : Nat -> Prop} {a0 : Act} {R : Exit -> Act -> World -> Prop}
  (hR : ∀ a w σ g, K σ -> Rel n0 N σ g a w -> LtK n0 w -> Bk n0 w0 w -> (g.A0, g.R0) = A0 -> Ag D a0 a -> R .normal { a with defers := ds } w) :
  ∀ (k i : Nat), i + k = ops.size -> (∀ o ∈ ops.toList, Oper.nodef o = true /\ ∀ d, o.dst = some d -> d < N /\ D d) -> ∀ (σ : St) (g : Gh) (a : Act) (w : World), za3 P ops (ops.toList.drop i) σ K -> Rel n0 N σ g a w -> LtK n0 w -> Bk n0 w0 w -> (g.A0, g.R0) = A0 -> Ag D a0 a -> wpOpsIn (FR r) n P ops R (List.range' i k) { a with defers := ds } w
 | 0, i, hi, hd, σ, g, a, w, h, hr, hn, hb, hA, hg => by
  have : ops.toList.drop i = [] := List.drop_of_length_le (by simp; omega)
  rw [this] at h
  exact hR a w σ g h hr hn hb hA hg
 | k + 1, i, hi, hd, σ, g, a, w, h, hr, hn, hb, hA, hg => by
  have hlt : i < ops.size := by omega
  have hcons : ops.toList.drop i = ops[i] :: ops.toList.drop (i + 1) := by
   rw [List.drop_eq_getElem_cons (by simpa using hlt)]; rfl
  rw [hcons] at h
  rw [show List.range' i (k + 1) = i :: List.range' (i + 1) k from rfl]
  have ho : ops[i]? = some ops[i] := by simp [hlt]
  obtain ⟨hnd, hdi⟩ := hd ops[i] (by simp)
  have next : ∀ σ' a' w', (∃ g', Rel n0 N σ' g' a' w' /\ Bk n0 w w' /\ g'.A0 = g.A0 /\ g'.R0 = g.R0) -> Ag D a0 a' -> za3 P ops (ops.toList.drop (i + 1)) σ' K -> wpOpsIn (FR r) n P ops R (List.range' (i + 1) k) { a' with defers := ds } w' := by
   rintro σ' a' w' ⟨g', k1, k2, k3, k4⟩ hg' hK
   exact zf0 hR k (i + 1) (by omega) hd σ' g' a' w' hK k1 (hn.mono k2.size) (hb.trans k2) (by rw [k3, k4]; exact hA) hg'
  have run : ∀ σ0, σ0 = σ -> zbg P ops[i] σ0 (fun σ' => za3 P ops (ops.toList.drop (i + 1)) σ' K) -> ops[i].wpIn (FR r) n P { a with defers := ds } w (wpOpsIn (FR r) n P ops R (List.range' (i + 1) k)) R := fun σ0 e0 h1 => by
   subst e0
   exact operIn hnd (fun a' w' ⟨σ', g', h0, hh⟩ => hh.1.defers) (zdt h1 n0 N g a w hr hn fun d hd => (hdi d hd).1) fun v w' ⟨σ', g', h0, hh⟩ => next σ' _ w' ⟨g', hh⟩ (hg.put (fun d hd => (hdi d hd).2) v) h0
  simp only [wpOpsIn, ho]
  unfold za3 exG at h
  split at h
  ·rename_i hg0
   have : Region.wanted ops[i] (yielded ops a.tmps) = true := by simp [Region.wanted, hg0]
   rw [if_pos this]
   exact run σ rfl h
  ·rename_i j want hg0
   split at h
   ·rename_i d hdj
    split at h
    ·rename_i c hc
     have hv := hr.slots d
     rw [hc] at hv
     simp only [VR, CR, zag] at hv
     have hy : yielded ops a.tmps j = some c := by
      unfold yielded
      rw [hdj]
      simp only [Option.bind_some]
      cases ht : a.tmps[d]? with
      | none => rw [Array.getD_eq_getD_getElem?, ht] at hv; exact absurd hv (g.R0.nb _ _)
      | some u => rw [Array.getD_eq_getD_getElem?, ht] at hv; simp only [Option.getD_some] at hv; subst hv; rfl
     have hw : Region.wanted ops[i] (yielded ops a.tmps) = (c == want) := by
      unfold Region.wanted
      rw [hg0]
      simp only [hy]
      cases c <;> cases want <;> rfl
     rw [hw]
     by_cases hcw : c = want
     ·subst hcw
      simp only [beq_self_eq_true, if_true]
      exact run _ (zc9 hc) (h.1 rfl)
     ·have hne : (c == want) = false := by simpa using hcw
      rw [hne]
      simp only [Bool.false_eq_true, if_false]
      have hnot : c = !want := by cases c <;> cases want <;> simp_all
      have hh := h.2 hnot
      rw [<- hnot, zc9 hc] at hh
      refine ⟨fun _ _ => trivial, ?_⟩
      rw [zb1]
      exact next _ _ _ ⟨g, hr.put _ (x := .tup []) ⟨[], rfl, rfl⟩ fun d hd => (hdi d hd).1, Bk.refl _ _, rfl, rfl⟩ (hg.put (fun d hd => (hdi d hd).2) _) hh
    ·rename_i xs hc
     have hv := hr.slots d
     rw [hc] at hv
     obtain ⟨vs, hv, _⟩ := hv
     have hy : yielded ops a.tmps j = none := by
      unfold yielded
      rw [hdj]
      simp only [Option.bind_some]
      cases ht : a.tmps[d]? with
      | none => rfl
      | some u => rw [Array.getD_eq_getD_getElem?, ht] at hv; simp only [Option.getD_some] at hv; subst hv; rfl
     have hw : Region.wanted ops[i] (yielded ops a.tmps) = false := by
      unfold Region.wanted
      rw [hg0]
      simp only [hy]
      rfl
     rw [hw]
     simp only [Bool.false_eq_true, if_false]
     refine ⟨fun _ _ => trivial, ?_⟩
     rw [zb1]
     exact next _ _ _ ⟨g, hr.put _ (x := .tup []) ⟨[], rfl, rfl⟩ fun d hd => (hdi d hd).1, Bk.refl _ _, rfl, rfl⟩ (hg.put (fun d hd => (hdi d hd).2) _) h
    ·exact h.elim
   ·exact h.elim
def zbb : Code -> Bool
 | .region _ ops false => ops.all Oper.nodef
 | .seq a b => zbb a && zbb b
 | .cond _ a b => zbb a && zbb b
 | .block _ b => zbb b
 | .skip => true
 | .ret => true
 | .exit _ => true
 | _ => false
def zca : Code -> List Nat
 | .region _ ops _ => ops.toList.filterMap (·.dst)
 | .seq a b => zca a ++ zca b
 | .cond _ a b => zca a ++ zca b
 | .block _ b => zca b
 | .loop b => zca b
 | _ => []
theorem zbd {n0 : Nat -> Prop} {N : Nat} {w0 : World} {A0 : (Nat -> Prop) × RP} {r : Option Nat} {n : Nat} {ds : List Deferred} {D : Nat -> Prop} {a0 : Act} : ∀ (c : Code) (σ : St) (Q : Exit -> St -> Prop), zbb c = true -> za5 N c = true -> (∀ d ∈ zca c, D d) -> zdi P c σ Q →
  ∀ (g : Gh) (a : Act) (w : World), Rel n0 N σ g a w -> LtK n0 w -> Bk n0 w0 w -> (g.A0, g.R0) = A0 -> Ag D a0 a -> c.wpIn (FR r) n P (EndsD n0 N w0 A0 ds D a0 Q) { a with defers := ds } w
 | .skip, σ, Q, _, _, _, h, g, a, w, hr, hn, hb, hA, hg => wpIn_skip ⟨a, rfl, hg, σ, g, h, hr, hn, hb, hA⟩
 | .ret, σ, Q, _, _, _, h, g, a, w, hr, hn, hb, hA, hg => wpIn_ret ⟨a, rfl, hg, σ, g, h, hr, hn, hb, hA⟩
 | .exit id, σ, Q, _, _, _, h, g, a, w, hr, hn, hb, hA, hg => wpIn_exit ⟨a, rfl, hg, σ, g, h, hr, hn, hb, hA⟩
 | .seq x y, σ, Q, hp, hd, hD, h, g, a, w, hr, hn, hb, hA, hg => by
  simp only [za5, zbb, Bool.and_eq_true] at hd hp
  simp only [zca, List.mem_append] at hD
  refine wpIn_seq (wpIn_mono (zbd x σ _ hp.1 hd.1 (fun d h => hD d (Or.inl h)) h g a w hr hn hb hA hg) fun e a' w' hq => ?_)
  obtain ⟨a1, rfl, hg1, σ', g', h1, h2, h3, h4, h5⟩ := hq
  cases e with
  | normal => exact zbd y σ' Q hp.2 hd.2 (fun d h => hD d (Or.inr h)) h1 g' a1 w' h2 h3 h4 h5 hg1
  | exit i => exact ⟨a1, rfl, hg1, σ', g', h1, h2, h3, h4, h5⟩
  | goto l => exact ⟨a1, rfl, hg1, σ', g', h1, h2, h3, h4, h5⟩
  | ret => exact ⟨a1, rfl, hg1, σ', g', h1, h2, h3, h4, h5⟩
  | panic ch => exact ⟨a1, rfl, hg1, σ', g', h1, h2, h3, h4, h5⟩
  | outgrown => exact ⟨a1, rfl, hg1, σ', g', h1, h2, h3, h4, h5⟩
 | .cond c x y, σ, Q, hp, hd, hD, h, g, a, w, hr, hn, hb, hA, hg => by
  simp only [za5, zbb, Bool.and_eq_true] at hd hp
  simp only [zca, List.mem_append] at hD
  unfold zdi at h
  have hv := hr.get P 0 c
  split at h
  ·rename_i t hc
   rw [hc] at hv
   simp only [VR, CR, zag] at hv
   exact wpIn_cond_split hv (fun ht => zbd x σ Q hp.1 hd.1 (fun d h => hD d (Or.inl h)) (h.1 ht) g a w hr hn hb hA hg) (fun ht => zbd y σ Q hp.2 hd.2 (fun d h => hD d (Or.inr h)) (h.2 ht) g a w hr hn hb hA hg)
  ·exact h.elim
 | .block id b, σ, Q, hp, hd, hD, h, g, a, w, hr, hn, hb, hA, hg => by
  refine wpIn_block (wpIn_mono (zbd b σ _ hp hd hD h g a w hr hn hb hA hg) fun e a' w' hq => ?_)
  obtain ⟨a1, rfl, hg1, σ', g', h1, h2, h3, h4, h5⟩ := hq
  cases e with
  | exit i =>
   simp only [Exit.inBlock]
   simp only at h1
   split at h1
   ·rw [if_pos ‹_›]; exact ⟨a1, rfl, hg1, σ', g', h1, h2, h3, h4, h5⟩
   ·rw [if_neg ‹_›]; exact ⟨a1, rfl, hg1, σ', g', h1, h2, h3, h4, h5⟩
  | normal => exact ⟨a1, rfl, hg1, σ', g', h1, h2, h3, h4, h5⟩
  | goto l => exact ⟨a1, rfl, hg1, σ', g', h1, h2, h3, h4, h5⟩
  | ret => exact ⟨a1, rfl, hg1, σ', g', h1, h2, h3, h4, h5⟩
  | panic ch => exact ⟨a1, rfl, hg1, σ', g', h1, h2, h3, h4, h5⟩
  | outgrown => exact ⟨a1, rfl, hg1, σ', g', h1, h2, h3, h4, h5⟩
 | .region id ops false, σ, Q, hp, hd, hD, h, g, a, w, hr, hn, hb, hA, hg => by
  refine wpIn_region ?_
  have hd' : ∀ o ∈ ops.toList, Oper.nodef o = true /\ ∀ d, o.dst = some d -> d < N /\ D d := fun o ho => by
   simp only [za5, zbb, Array.all_eq_true_iff_forall_mem] at hd hp
   refine ⟨hp o (by simpa using ho), fun d hdd => ⟨?_, hD d (by simp only [zca, List.mem_filterMap]; exact ⟨o, ho, hdd⟩)⟩⟩
   have := hd o (by simpa using ho)
   rw [hdd] at this
   simpa using this
  rw [List.range_eq_range']
  exact zf0 (fun a w σ g h1 h2 h3 h4 h5 h6 => ⟨a, rfl, h6, σ, g, h1, h2, h3, h4, h5⟩) ops.size 0 (by omega) hd' σ g a w (by simpa [zdi] using h) hr hn hb hA hg
 | .loop _, _, _, hp, _, _, _, _, _, _, _, _, _, _, _ => by cases hp
 | .region _ _ true, _, _, hp, _, _, _, _, _, _, _, _, _, _, _ => by cases hp
 | .rangeFunc .., _, _, hp, _, _, _, _, _, _, _, _, _, _, _ => by cases hp
 | .scope _, _, _, hp, _, _, _, _, _, _, _, _, _, _, _ => by cases hp
 | .label _, _, _, hp, _, _, _, _, _, _, _, _, _, _, _ => by cases hp
 | .goto _, _, _, hp, _, _, _, _, _, _, _, _, _, _, _ => by cases hp
 | .refuse _, _, _, hp, _, _, _, _, _, _, _, _, _, _, _ => by cases hp
end Go.Proofs.YteeaofpphmhjdaaDoor
namespace Go.Proofs.YteeaofpphmhjdaaDoor
set_option linter.unusedSimpArgs false
set_option linter.unusedVariables false
set_option linter.unusedSectionVars false
set_option maxRecDepth 4000
open Go.RowKit
variable {P : Program}
theorem Rel.turn {n0 n1 A1 : Nat -> Prop} {N : Nat} {σ : St} {g : Gh} {a : Act} {w w' : World} (h : Rel n0 N σ g a w) (hF : ∀ b, Fix σ g w b -> A1 b /\ w'.heap[b]? = w.heap[b]?) (hz : w.heap.size <= w'.heap.size)
  (hn : ∀ b, ¬ n1 b -> A1 b /\ g.R0 b) (hb : ∀ k, σ.bx k ≠ none -> ¬ n1 (g.β k) /\ w'.heap[g.β k]? = w.heap[g.β k]?) (he : ∀ e, σ.On e -> ∀ b ∈ g.φ e, ¬ n1 b /\ A1 b /\ w'.heap[b]? = w.heap[b]?) : Rel n1 N σ { g with A0 := A1 } a w' := by
 have m : Mv σ σ g { g with A0 := A1 } w w' := ⟨fun b hf => (hF b hf).2, fun b hf => ⟨hf.1, hf.2.1, Nat.lt_of_lt_of_le hf.2.2.1 hz, (hF b hf).1⟩, fun b hbb => ⟨rfl, hbb⟩, fun e n hh => ⟨hh, rfl⟩, fun b hb => hb.2⟩
 refine ⟨h.defers, h.size, hn, fun i => m.vr (h.slots i), fun b cs hbb => ?_, fun b hbb => (hb b hbb).1, h.inj, fun e x hx ho => m.evr (h.evs e x hx ho) fun b hm => (he e ⟨x, hx, ho⟩ b hm).2.2, fun e x hx ho => ⟨m.rep (h.offs e x hx ho).1, (h.offs e x hx ho).2⟩, h.slc, fun e ho b hm => ⟨(he e ho b hm).2.1, (h.ebase e ho b hm).2⟩, fun e ho b hm => (he e ho b hm).1, h.nodup, h.apart, h.ebx⟩
 obtain ⟨vs, ty, k1, k2⟩ := h.boxes b cs hbb
 exact ⟨vs, ty, by rw [(hb b (by rw [hbb]; simp)).2]; exact k1, m.crs k2⟩
theorem Rel.elt {n0 : Nat -> Prop} {N : Nat} {σ : St} {g : Gh} {a : Act} {w : World} (h : Rel n0 N σ g a w) {e : Nat} (ho : σ.On e) {b : Nat} (hm : b ∈ g.φ e) : b < w.heap.size := by
 obtain ⟨x, hx, hon⟩ := ho
 exact (h.evs e x hx hon).lt b hm
theorem Rel.enter {n0 : Nat -> Prop} {N : Nat} {σ : St} {g : Gh} {a : Act} {w : World} (h : Rel n0 N σ g a w) (o1 o2 : Obj) :
  Rel (fun b => n0 b \/ b = w.heap.size \/ b = w.heap.size + 1) N σ { g with A0 := fun b => g.A0 b /\ b ≠ w.heap.size /\ b ≠ w.heap.size + 1 } a ((w.alloc o1).alloc o2) := by
 have hs : ∀ b, b < w.heap.size -> ((w.alloc o1).alloc o2).heap[b]? = w.heap[b]? := fun b hb => by rw [Below.heap_alloc _ _ _ (by simp; omega), Below.heap_alloc _ _ _ hb]
 refine h.turn (fun b hf => ⟨⟨hf.2.2.2, ?_, ?_⟩, hs b hf.2.2.1⟩) (by simp; omega) (fun b hb => ?_) (fun k hk => ⟨?_, hs _ (h.lt hk)⟩) (fun e ho b hm => ?_)
 ·have := hf.2.2.1; omega
 ·have := hf.2.2.1; omega
 ·have h1 : ¬ n0 b := fun k => hb (Or.inl k)
  exact ⟨⟨(h.anew b h1).1, fun e => hb (Or.inr (Or.inl e)), fun e => hb (Or.inr (Or.inr e))⟩, (h.anew b h1).2⟩
 ·have := h.lt hk
  rintro (k1 | k1 | k1)
  ·exact h.base k hk k1
  ·omega
  ·omega
 ·have := h.elt ho hm
  refine ⟨?_, ⟨(h.ebase e ho b hm).1, by omega, by omega⟩, hs b this⟩
  rintro (k1 | k1 | k1)
  ·exact h.etop e ho b hm k1
  ·omega
  ·omega
theorem Rel.putObj {n1 : Nat -> Prop} {N : Nat} {σ : St} {g : Gh} {a : Act} {w : World} (h : Rel n1 N σ g a w) {l : Nat} (hl : n1 l) (hA : ¬ g.A0 l) (o : Obj) : Rel n1 N σ g a (w.putObj l o) := by
 have := h.turn (n1 := n1) (A1 := g.A0) (w' := w.putObj l o) (fun b hf => ⟨hf.2.2.2, World.putObj_heap_other (fun e => hA (e ▸ hf.2.2.2))⟩) (by simp) h.anew
  (fun k hk => ⟨h.base k hk, World.putObj_heap_other (fun e => h.base k hk (e ▸ hl))⟩) (fun e ho b hm => ⟨h.etop e ho b hm, (h.ebase e ho b hm).1, World.putObj_heap_other (fun e' => h.etop e ho b hm (e' ▸ hl))⟩)
 exact this
theorem Rel.leave {n0 n1 A1 : Nat -> Prop} {N : Nat} {σ : St} {g : Gh} {a : Act} {w : World} (h : Rel n1 N σ g a w) (hn : ∀ b, n0 b -> n1 b) (hA : ∀ b, g.A0 b -> A1 b) (hnew : ∀ b, ¬ n0 b -> A1 b /\ g.R0 b) : Rel n0 N σ { g with A0 := A1 } a w :=
 h.turn (fun b hf => ⟨hA b hf.2.2.2, rfl⟩) (Nat.le_refl _) hnew (fun k hk => ⟨fun k1 => h.base k hk (hn _ k1), rfl⟩) (fun e ho b hm => ⟨fun k1 => h.etop e ho b hm (hn _ k1), hA b (h.ebase e ho b hm).1, rfl⟩)
theorem Rel.frame {n0 : Nat -> Prop} {N : Nat} {σ : St} {g : Gh} {a a0 : Act} {w : World} (h : Rel n0 N σ g a w) {D : Nat -> Prop} (hg : Ag D a0 a) (hd : a0.defers = []) (hz : a0.tmps.size = N) (hany : ∀ i, D i -> σ.sl i = .one .any) : Rel n0 N σ g a0 w := by
 refine h.slots_of rfl rfl hd hz fun i => ?_
 by_cases hi : D i
 ·rw [hany i hi]; trivial
 ·have h1 := hg i hi
  have h2 := h.slots i
  have e : a0.tmps.getD i (g.R0.ξ i) = a.tmps.getD i (g.R0.ξ i) := by
   rw [Array.getD_eq_getD_getElem?, Array.getD_eq_getD_getElem?] at h1 ⊢
   by_cases hlt : i < N
   ·have s1 : i < a.tmps.size := by rw [h.size]; exact hlt
    have s2 : i < a0.tmps.size := by rw [hz]; exact hlt
    simp only [Array.getElem?_eq_getElem s1, Array.getElem?_eq_getElem s2, Option.getD_some] at h1 ⊢
    exact h1.symm
   ·have s1 : ¬ i < a.tmps.size := by rw [h.size]; exact hlt
    have s2 : ¬ i < a0.tmps.size := by rw [hz]; exact hlt
    simp [s1, s2]
  rw [e]; exact h2
def agv (ag : Bool) (r : List Value) : Value := if ag = true then .agg ⟨r⟩ else r.headD undef
def zkf (P : Program) (f : FuncId) (ag : Bool) (sz : Nat) : Prop := ∀ (l Bs n : Nat) (W : World) (J : Nat -> World -> Prop), n <= zda →
 (∀ W, J 0 W -> ∃ ao cap, W.cell? ⟨Bs, 0, none⟩ = some (.slice ao n cap)) →
 (∀ k W, J k W -> k < n -> ∃ b o cap r, W.cell? ⟨Bs, 0, none⟩ = some (.slice (some ⟨b, o, none⟩) n cap) /\ r.length = sz /\ (∀ j v, r[j]? = some v -> W.cell? ⟨b, o + (n - 1 - k) * sz + j, none⟩ = some v) ∧
  YieldAt (FR none) 5 P l #[.int .i64 ((n - 1 - k : Nat) : Int), agv ag r] W fun e W' => e = .returned (.bool true) /\ J (k + 1) W') →
 J 0 W -> CallsIn (FR none) 6 P f #[.func (.yield l) #[] #[], .pointer (some ⟨Bs, 0, none⟩)] W fun e W' => (∃ v, e = .returned v) /\ J n W'
theorem zav.valsN {w : World} {A : Nat -> Prop} {b : Nat} : ∀ {cs : List T} {o : Nat}, zav w A b o cs -> ∃ vs, zaa w A cs vs /\ ∀ j v, vs[j]? = some v -> w.cell? ⟨b, o + j, none⟩ = some v
 | [], _, _ => ⟨[], by unfold zaa; rfl, fun j v h => by simp at h⟩
 | c :: cs, o, h => by
  unfold zav at h
  obtain ⟨⟨v, h1, h2⟩, h3⟩ := h
  obtain ⟨vs, k1, k2⟩ := zav.valsN h3
  refine ⟨v :: vs, by unfold zaa; exact ⟨v, vs, rfl, h2, k1⟩, fun j u hj => ?_⟩
  cases j with
  | zero => simp only [List.getElem?_cons_zero, Option.some.injEq] at hj; subst hj; exact h1
  | succ j =>
   have := k2 j u (by simpa using hj)
   rwa [show o + (j + 1) = o + 1 + j by omega]
def zsy (ag : Bool) (r : List T) : V := if ag = true then .agg (r.map T.toN) else .one (r.headD (.bool false)).toN
theorem zug {σ : St} {g : Gh} {w : World} {ag : Bool} {r : List T} {vs : List Value} (hag : ag = true \/ r.length = 1) (h : zaa w (zdd σ g w) r vs) : VR σ g w (zsy ag r) (agv ag vs) := by
 cases ag with
 | true => exact ⟨vs, rfl, zir (fun _ h => h) h⟩
 | false =>
  have hl := hag.resolve_left (by simp)
  match r, hl, h with
  | [c], _, h =>
   unfold zaa at h
   obtain ⟨v, vs', rfl, h1, h2⟩ := h
   exact zoh (fun _ h => h) h1
theorem Bk.mono {n0 n1 : Nat -> Prop} {w w' : World} (h : Bk n1 w w') (hn : ∀ b, n0 b -> n1 b) : Bk n0 w w' := ⟨h.os, h.tape, h.output, h.size, fun k hk => h.block k (hn k hk)⟩
theorem Bk.putObj {n0 : Nat -> Prop} (w : World) {l : Nat} (hl : ¬ n0 l) (o : Obj) : Bk n0 w (w.putObj l o) := ⟨rfl, rfl, rfl, by simp, fun k hk => World.putObj_heap_other (fun e => hl (e ▸ hk))⟩
theorem zi4 {n0 : Nat -> Prop} {N : Nat} {σ : St} {g : Gh} {a : Act} {w : World} (h : Rel n0 N σ g a w) {id sz : Nat} {rows : List (List T)} (hb : σ.bx id = some [.rn (.sl sz rows)]) :
  ∃ ao cap, w.cell? ⟨g.β id, 0, none⟩ = some (.slice ao rows.length cap) /\ rows.length <= zda /\ (rows = [] \/ ∃ b o, ao = some ⟨b, o, none⟩ /\ zae w (zdd σ g w) b o sz rows) := by
 obtain ⟨⟨vl⟩, ty, k1, v, vs', rfl, k2, k3⟩ := h.boxes id _ hb
 obtain rfl : vs' = [] := k3
 simp only [CR] at k2
 unfold zag at k2
 obtain ⟨ao, cap, rfl, h2, h3, h4⟩ := k2
 refine ⟨ao, cap, by simp [World.cell?, k1], by omega, h4.imp (fun h => h) ?_⟩
 rintro ⟨b, o, e1, _, e2⟩
 exact ⟨b, o, e1, e2⟩
theorem zik {F1 : FuncId} {ag : Bool} {sz t p1 p2 id N m : Nat} {asg bd : Code} (hB : zkf P F1 ag sz) (hc : zay P F1) (hpa : zbb asg = true) (hpb : zbb bd = true) (hda : za5 N asg = true) (hdb : za5 N bd = true) (hp1 : p1 < N) (hp2 : p2 < N) (ht : t < 1000000)
  (H : Nat -> St) (rows : List (List T)) (hag : ag = true \/ sz = 1) (hslot : ∀ k, (H k).sl t = .one (.fn F1 [id]) /\ (H k).bx id = some [.rn (.sl sz rows)]) (hany : ∀ k, ∀ i ∈ p1 :: p2 :: (zca asg ++ zca bd), (H k).sl i = .one .any)
  (hround : ∀ k, k < rows.length -> zdi P asg (((H k).put (some p1) (.one (.t (.int .i64 ((rows.length - 1 - k : Nat) : Int))))).put (some p2) (zsy ag (rows.getD (rows.length - 1 - k) []))) fun e σ2 => e = .normal /\ zdi P bd σ2 fun e σ3 => e = .normal /\ Wk σ3 (H (k + 1)))
  {n0 : Nat -> Prop} {g : Gh} {a : Act} {w0 w : World} (hR : Rel n0 N (H 0) g a w) (hn : LtK n0 w) (hb : Bk n0 w0 w) {Q : Exit -> Act -> World -> Prop}
  (hQ : ∀ g' w', Rel (fun b => n0 b \/ b = w.heap.size \/ b = w.heap.size + 1) N (H rows.length) g' a w' -> LtK (fun b => n0 b \/ b = w.heap.size \/ b = w.heap.size + 1) w' -> Bk n0 w0 w' -> w'.heap[w.heap.size]? = some (.deferred (some [])) →
   (g'.A0, g'.R0) = ((fun b => g.A0 b /\ b ≠ w.heap.size /\ b ≠ w.heap.size + 1), g.R0) -> Q .normal { a with defers := [{ target := .collected w.heap.size, args := #[] }] } w') :
  (Code.rangeFunc (.tmp t) #[p1, p2] asg bd).wpIn (FR none) m P Q a w := by
 obtain ⟨n1, hn1⟩ : ∃ n1 : Nat -> Prop, n1 = fun b => n0 b \/ b = w.heap.size \/ b = w.heap.size + 1 := ⟨_, rfl⟩
 obtain ⟨A1, hA1⟩ : ∃ A1 : (Nat -> Prop) × RP, A1 = ((fun b => g.A0 b /\ b ≠ w.heap.size /\ b ≠ w.heap.size + 1), g.R0) := ⟨_, rfl⟩
 rw [<- hn1, <- hA1] at hQ
 have hD1 : n1 w.heap.size := by rw [hn1]; exact Or.inr (Or.inl rfl)
 have hl1 : n1 (w.heap.size + 1) := by rw [hn1]; exact Or.inr (Or.inr rfl)
 have hsub : ∀ b, n0 b -> n1 b := fun b h => by rw [hn1]; exact Or.inl h
 have hl0 : ¬ n0 (w.heap.size + 1) := hn.new (by omega)
 have hAl : ∀ g' : Gh, (g'.A0, g'.R0) = A1 -> ¬ g'.A0 (w.heap.size + 1) := fun g' h k => by rw [hA1] at h; rw [(Prod.mk.inj h).1] at k; exact k.2.2 rfl
 have hv0 : a.tmps.getD t undef = .func (.func F1) #[] ⟨[.pointer (some ⟨g.β id, 0, none⟩)]⟩ := by
  have := hR.slot_at ht
  rw [(hslot 0).1] at this
  exact this.1
 have hβ : ∀ {k g' W}, Rel n1 N (H k) g' a W -> g'.β id = g.β id := fun {k g' W} h => by
  have h1 := h.slot_at ht
  rw [(hslot k).1] at h1
  have h2 := h1.1
  rw [hv0] at h2
  simp only [List.map_cons, List.map_nil, Value.func.injEq, Array.mk.injEq, List.cons.injEq, Value.pointer.injEq, Option.some.injEq, Addr.mk.injEq, and_true, true_and] at h2
  exact h2.symm
 refine wpIn_rangeFunc ?_
 intro fn hfn
 obtain ⟨rec, hrec⟩ : ∃ rec : LoopState -> Loop, rec = fun st => { state := st, pending := none, fn, tmps := a.tmps, params := #[p1, p2], assign := asg, body := bd, defers := w.heap.size } := ⟨_, rfl⟩
 obtain ⟨W1, hW1⟩ : ∃ W1, (w.alloc (.deferred (some []))).alloc (.loop (rec .ready)) = W1 := ⟨_, rfl⟩
 have hL1 : W1.heap[w.heap.size + 1]? = some (.loop (rec .ready)) := by
  rw [<- hW1]; have := World.alloc_heap_new (w.alloc (.deferred (some []))) (.loop (rec .ready)); rwa [World.size_alloc] at this
 have hK1 : W1.heap[w.heap.size]? = some (.deferred (some [])) := by
  rw [<- hW1]; exact (Below.heap_alloc _ _ _ (by simp)).trans (World.alloc_heap_new w _)
 have hR1 : Rel n1 N (H 0) { g with A0 := fun b => g.A0 b /\ b ≠ w.heap.size /\ b ≠ w.heap.size + 1 } a W1 := by rw [<- hW1, hn1]; exact hR.enter _ _
 have hb1 : Bk n0 w0 W1 := by rw [<- hW1]; exact (hb.trans (Bk.of_alloc hn _)).trans (Bk.of_alloc (hn.mono (by simp)) _)
 have hz1 : LtK n1 W1 := by
  rw [<- hW1, hn1]
  rintro k (h | rfl | rfl)
  ·have := hn k h; simp; omega
  ·simp; omega
  ·simp
 have hg : a.eval (.tmp t) = .func (.func F1) #[] #[.pointer (some ⟨g.β id, 0, none⟩)] := hv0
 refine ⟨w.heap.size + 1, [{ target := .collected w.heap.size, args := #[] }], W1, { target := .fn (.func F1) #[.pointer (some ⟨g.β id, 0, none⟩)], args := #[.func (.yield (w.heap.size + 1)) #[] #[]] }, W1, F1,
  #[.func (.yield (w.heap.size + 1)) #[] #[]] ++ #[.pointer (some ⟨g.β id, 0, none⟩)], W1, ?_, ?_, fun _ _ => trivial, ?_, (fun h => by cases h), ?_⟩
 ·rw [<- hW1, hrec]; exact run_enterLoop_outer _ _ _ _ _
 ·simp only [resolve, hg]
  simp [go_sem]
 ·have hc' : ∀ (args : Array Value) (w : World), (callFunc F1 args).run P w = .ok (.enter F1 args) w := hc
  simp [invoke, go_sem, hc']
 ·have hgA : ∀ {g' : Gh}, (g'.A0, g'.R0) = A1 -> g'.R0 = g.R0 := fun {g'} h => by rw [hA1] at h; exact (Prod.mk.inj h).2
  obtain ⟨J, hJ⟩ : ∃ J : Nat -> World -> Prop, J = fun k W => (∃ gk, Rel n1 N (H k) gk a W /\ (gk.A0, gk.R0) = A1) /\ LtK n1 W /\ Bk n0 w0 W /\ W.heap[w.heap.size + 1]? = some (.loop (rec .ready)) /\ W.heap[w.heap.size]? = some (.deferred (some [])) := ⟨_, rfl⟩
  have hmax : rows.length <= zda := by obtain ⟨_, _, _, h, _⟩ := zi4 hR1 (hslot 0).2; exact h
  refine CallsIn.mono (zc6.2 (zc6.1 (hB (w.heap.size + 1) (g.β id) rows.length W1 J hmax ?_ ?_ ?_))) ?_
  ·rintro W h
   rw [hJ] at h
   obtain ⟨⟨gk, k1, k2⟩, _⟩ := h
   obtain ⟨ao, cap, h1, _⟩ := zi4 k1 (hslot 0).2
   rw [hβ k1] at h1
   exact ⟨ao, cap, h1⟩
  ·rintro k W h hk
   rw [hJ] at h
   obtain ⟨⟨gk, k1, k2⟩, k3, k4, k5, k6⟩ := h
   obtain ⟨ao, cap, h1, _, h2⟩ := zi4 k1 (hslot k).2
   rw [hβ k1] at h1
   obtain ⟨b, o, rfl, h3⟩ := h2.resolve_left (fun e => by rw [e] at hk; simp at hk)
   have hi : rows.length - 1 - k < rows.length := by omega
   obtain ⟨h4, h5⟩ := h3.at (rows.length - 1 - k) rows[rows.length - 1 - k] (by simp [hi])
   obtain ⟨vs, h6, h7⟩ := h5.valsN
   refine ⟨b, o, cap, vs, h1, by rw [h6.len]; exact h4, h7, ?_⟩
   have hy := run_yield (P := P) (args := #[.int .i64 ((rows.length - 1 - k : Nat) : Int), agv ag vs]) k5 (by rw [hrec]; rfl)
   rw [hrec] at hy
   refine ⟨fn, _, asg, bd, hy, roundIn_of_wpIn hfn ?_⟩
   clear hy
   have hda' : a.defers = [] := k1.defers
   have hex := hround k hk
   rw [show rows.getD (rows.length - 1 - k) [] = rows[rows.length - 1 - k] by simp [hi]] at hex
   have q1 : Rel n1 N (((H k).put (some p1) (.one (.t (.int .i64 ((rows.length - 1 - k : Nat) : Int))))).put (some p2) (zsy ag rows[rows.length - 1 - k])) gk ((a.put (some p1) (.int .i64 ((rows.length - 1 - k : Nat) : Int))).put (some p2) (agv ag vs)) W := by
    refine (k1.put (some p1) (v := .int .i64 ((rows.length - 1 - k : Nat) : Int)) ?_ (fun i e => by cases e; exact hp1)).put (some p2) ?_ (fun i e => by cases e; exact hp2)
    ·show zag _ _ _ _
     unfold zag
     have m1 : IntKind.min .i64 = -9223372036854775808 := by decide
     have m2 : IntKind.max .i64 = 9223372036854775807 := by decide
     unfold zda at hmax
     exact ⟨rfl, by omega, by omega⟩
    ·exact (Mv.of_eq gk W rfl rfl).vr (zug (hag.imp (fun h => h) fun h => by rw [h4, h]) h6)
   have q2 : Ag (fun i => i ∈ p1 :: p2 :: (zca asg ++ zca bd)) a ((a.put (some p1) (.int .i64 ((rows.length - 1 - k : Nat) : Int))).put (some p2) (agv ag vs)) :=
    ((Ag.refl _ a).put (fun i e => by cases e; simp) _).put (fun i e => by cases e; simp) _
   have ef : (#[p1, p2].zip #[.int .i64 ((rows.length - 1 - k : Nat) : Int), agv ag vs]).foldl (fun (tmps : Array Value) (x : Nat × Value) => match x with | (t, v) => tmps.setIfInBounds t v) a.tmps = ((a.put (some p1) (.int .i64 ((rows.length - 1 - k : Nat) : Int))).put (some p2) (agv ag vs)).tmps := by simp [Act.put]
   show asg.wpIn (FR (some (w.heap.size + 1))) 5 P _ { tmps := (#[p1, p2].zip #[.int .i64 ((rows.length - 1 - k : Nat) : Int), agv ag vs]).foldl (fun (tmps : Array Value) (x : Nat × Value) => match x with | (t, v) => tmps.setIfInBounds t v) a.tmps, defers := [] } W
   rw [ef]
   refine wpIn_mono (zbd (r := some (w.heap.size + 1)) (n := 5) (ds := []) (D := fun i => i ∈ p1 :: p2 :: (zca asg ++ zca bd)) (a0 := a) asg _ _ hpa hda (fun d hd => by simp [hd]) hex gk _ W q1 k3 (Bk.refl n1 W) k2 q2) ?_
   rintro e a2 W2 ⟨a1, rfl, q3, σ2, g2, ⟨rfl, hex2⟩, q4, q5, q6, q7⟩
   have r1 : W2.heap[w.heap.size + 1]? = some (.loop (rec .ready)) := (q6.block _ hl1).trans k5
   refine ⟨_, run_beginRound r1 (by rw [hrec]), ?_⟩
   have q4' := q4.putObj hl1 (hAl g2 q7) (.loop { rec .ready with state := .busy })
   have q5' : LtK n1 (W2.putObj (w.heap.size + 1) (.loop { rec .ready with state := .busy })) := fun b hb => by have := q5 b hb; simpa using this
   refine wpIn_mono (zbd (r := some (w.heap.size + 1)) (n := 5) (ds := []) (D := fun i => i ∈ p1 :: p2 :: (zca asg ++ zca bd)) (a0 := a) bd _ _ hpb hdb (fun d hd => by simp [hd]) hex2 g2 _ _ q4' q5' (Bk.refl n1 _) q7 q3) ?_
   rintro e a3 W3 ⟨a4, rfl, s3, σ3, g3, ⟨rfl, hwk⟩, s4, s5, s6, s7⟩
   have r2 : W3.heap[w.heap.size + 1]? = some (.loop { rec .ready with state := .busy }) := (s6.block _ hl1).trans (World.putObj_heap_same (Array.getElem?_eq_some_iff.1 r1).1)
   have r3 := run_endRound (P := P) none r2
   obtain ⟨g4, t1, t2, t3⟩ := hwk _ _ _ _ _ s4
   have hA4 : (g4.A0, g4.R0) = A1 := by rw [t2, t3]; exact s7
   have t4 : Rel n1 N (H (k + 1)) g4 a W3 := t1.frame s3 hda' k1.size (hany (k + 1))
   refine ⟨_, _, r3, rfl, ?_⟩
   rw [hJ]
   refine ⟨⟨g4, t4.putObj hl1 (hAl g4 hA4) _, hA4⟩, fun b hb => by have := s5 b hb; simpa using this, ?_, by rw [World.putObj_heap_same (Array.getElem?_eq_some_iff.1 r2).1, hrec]; rfl, ?_⟩
   ·exact (((k4.trans (q6.mono hsub)).trans (Bk.putObj _ hl0 _)).trans (s6.mono hsub)).trans (Bk.putObj _ hl0 _)
   ·rw [World.putObj_heap_other (by omega), s6.block _ hD1, World.putObj_heap_other (by omega), q6.block _ hD1]; exact k6
  ·rw [hJ]
   exact ⟨⟨_, hR1, hA1.symm⟩, hz1, hb1, hL1, hK1⟩
  ·rintro e W2 ⟨⟨v, rfl⟩, h⟩
   rw [hJ] at h
   obtain ⟨⟨gk, k1, k2⟩, k3, k4, k5, k6⟩ := h
   refine ⟨none, _, by have := run_endLoop (P := P) k5 (by rw [hrec]; simp); rw [hrec] at this; exact this, ?_⟩
   have hda' : a.defers = [] := k1.defers
   show Q .normal { a with defers := [{ target := .collected w.heap.size, args := #[] }] ++ a.defers } _
   rw [hda', List.append_nil]
   exact hQ gk _ (k1.putObj hl1 (hAl gk k2) _) (fun b hb => by have := k3 b hb; simpa using this) (k4.trans (Bk.putObj _ hl0 _)) ((World.putObj_heap_other (by omega)).trans k6) k2
end Go.Proofs.YteeaofpphmhjdaaDoor
namespace Go.Proofs.YteeaofpphmhjdaaDoor
set_option linter.unusedSimpArgs false
set_option linter.unusedVariables false
set_option linter.unusedSectionVars false
set_option maxRecDepth 4000
open Go.RowKit
variable {P : Program}
def zce : Code -> Option (Code × (Operand × Array Tmp × Code × Code) × Code)
 | .rangeFunc g ps asg bd => some (.skip, (g, ps, asg, bd), .skip)
 | .block _ b => match b with
  | .rangeFunc g ps asg bd => some (.skip, (g, ps, asg, bd), .skip)
  | _ => none
 | .seq x y => match zce x with
  | some (p, r, q) => some (p, r, .seq q y)
  | none => match zce y with
   | some (p, r, q) => some (.seq x p, r, q)
   | none => none
 | _ => none
def zkt (P : Program) (N : Nat) (g : Operand) (ps : Array Tmp) (asg bd q : Code) (Q : Exit -> St -> Prop) (σ : St) : Prop :=
 ∃ (F1 : FuncId) (ag : Bool) (sz t p1 p2 id : Nat) (H : Nat -> St) (rows : List (List T)), g = .tmp t /\ ps = #[p1, p2] /\ zkf P F1 ag sz /\ zay P F1 /\ (p1 < N /\ p2 < N /\ t < 1000000) /\ (ag = true \/ sz = 1) ∧
  (∀ k, (H k).sl t = .one (.fn F1 [id]) /\ (H k).bx id = some [.rn (.sl sz rows)]) /\ (∀ k, ∀ i ∈ p1 :: p2 :: (zca asg ++ zca bd), (H k).sl i = .one .any) ∧
  (∀ k, k < rows.length -> zdi P asg (((H k).put (some p1) (.one (.t (.int .i64 ((rows.length - 1 - k : Nat) : Int))))).put (some p2) (zsy ag (rows.getD (rows.length - 1 - k) []))) fun e σ2 => e = .normal /\ zdi P bd σ2 fun e σ3 => e = .normal /\ Wk σ3 (H (k + 1))) ∧
  Wk σ (H 0) /\ zdi P q (H rows.length) Q
def zp6 (n0 : Nat -> Prop) (N : Nat) (w0 : World) (A0 : (Nat -> Prop) × RP) (Q : Exit -> St -> Prop) (e : Exit) (a : Act) (w : World) : Prop :=
 ∃ (D : Nat) (n1 : Nat -> Prop) (a1 : Act) (σ : St) (g : Gh), a = { a1 with defers := [{ target := .collected D, args := #[] }] } /\ Q e σ /\ Rel n1 N σ g a1 w /\ LtK n1 w /\ Bk n0 w0 w /\ w.heap[D]? = some (.deferred (some [])) /\ n1 D /\ ¬ n0 D /\ (∀ b, n0 b -> n1 b) /\ ¬ g.A0 D /\ (∀ b, g.A0 b -> A0.1 b) /\ g.R0 = A0.2
theorem zll {n0 : Nat -> Prop} {N n : Nat} {w0 : World} {A0 : (Nat -> Prop) × RP} {Q : Exit -> St -> Prop} {y : Code} (hp : zbb y = true) (hd : za5 N y = true) {a : Act} {w : World} (h : zp6 n0 N w0 A0 (fun _ σ => zdi P y σ Q) .normal a w) :
  y.wpIn (FR none) n P (zp6 n0 N w0 A0 Q) a w := by
 obtain ⟨D, n1, a1, σ, g, rfl, h1, h2, h3, h4, h5, h6, h7, h8, h9, h10, h11⟩ := h
 refine wpIn_mono (zbd (r := none) (n := n) (ds := [{ target := .collected D, args := #[] }]) (D := fun _ => True) (a0 := a1) (A0 := (g.A0, g.R0)) y σ Q hp hd (fun _ _ => trivial) h1 g a1 w h2 h3 (Bk.refl n1 w) rfl (Ag.refl _ _)) ?_
 rintro e a' w' ⟨a2, rfl, _, σ', g', k1, k2, k3, k4, k5⟩
 have e1 : g'.A0 = g.A0 := (Prod.mk.inj k5).1
 have e2 : g'.R0 = g.R0 := (Prod.mk.inj k5).2
 exact ⟨D, n1, a2, σ', g', rfl, k1, k2, k3, h4.trans (k4.mono h8), (k4.block D h6).trans h5, h6, h7, h8, by rw [e1]; exact h9, by rw [e1]; exact h10, by rw [e2]; exact h11⟩
theorem zi1 {N n : Nat} {n0 : Nat -> Prop} {w0 : World} {A0 : (Nat -> Prop) × RP} : ∀ {c p q : Code} {g : Operand} {ps : Array Tmp} {asg bd : Code} {Q1 Q2 : Exit -> St -> Prop} {Q : Exit -> Act -> World -> Prop}, zce c = some (p, (g, ps, asg, bd), q) →
  za5 N p = true -> za5 N q = true -> zbb q = true -> (zbb asg = true /\ zbb bd = true /\ za5 N asg = true /\ za5 N bd = true) -> (∀ σ, Q1 .normal σ -> zkt P N g ps asg bd q Q2 σ) →
  (∀ e a w, e ≠ .normal -> Ends n0 N w0 A0 Q1 e a w -> Q e a w) -> (∀ e a w, zp6 n0 N w0 A0 Q2 e a w -> Q e a w) →
  ∀ {σ : St} {gh : Gh} {a : Act} {w : World}, zdi P p σ Q1 -> Rel n0 N σ gh a w -> LtK n0 w -> Bk n0 w0 w -> (gh.A0, gh.R0) = A0 -> c.wpIn (FR none) n P Q a w := by
 intro c
 have loop : ∀ {g : Operand} {ps : Array Tmp} {asg bd : Code} {Q1 Q2 : Exit -> St -> Prop} {Q : Exit -> Act -> World -> Prop}, (zbb asg = true /\ zbb bd = true /\ za5 N asg = true /\ za5 N bd = true) -> (∀ σ, Q1 .normal σ -> zkt P N g ps asg bd .skip Q2 σ) →
   (∀ a w, zp6 n0 N w0 A0 Q2 .normal a w -> Q .normal a w) -> ∀ {σ : St} {gh : Gh} {a : Act} {w : World}, zdi P .skip σ Q1 -> Rel n0 N σ gh a w -> LtK n0 w -> Bk n0 w0 w -> (gh.A0, gh.R0) = A0 -> (Code.rangeFunc g ps asg bd).wpIn (FR none) n P Q a w := by
  intro g ps asg bd Q1 Q2 Q ha hL hq σ gh a w hex hR hn hb hA
  obtain ⟨F1, ag, sz, t, p1, p2, id, H, rows, rfl, rfl, h1, h2, h3, h4, h5, h6, h7, h8, h9⟩ := hL σ hex
  obtain ⟨g1, k1, k2, k3⟩ := h8 _ _ _ _ _ hR
  refine zik h1 h2 ha.1 ha.2.1 ha.2.2.1 ha.2.2.2 h3.1 h3.2.1 h3.2.2 H rows h4 h5 h6 h7 k1 hn hb fun g' w' q1 q2 q3 q4 q5 => hq _ _ ?_
  refine ⟨w.heap.size, _, a, H rows.length, g', rfl, h9, q1, q2, q3, q4, Or.inr (Or.inl rfl), hn.new (Nat.le_refl _), fun b hb => Or.inl hb, ?_, ?_, ?_⟩
  ·rw [(Prod.mk.inj q5).1]; exact fun h => h.2.1 rfl
  ·rw [(Prod.mk.inj q5).1, <- hA]; intro b hb; rw [k2] at hb; exact hb.1
  ·rw [(Prod.mk.inj q5).2, <- hA]; exact k3
 induction c with
 | rangeFunc g ps asg bd _ _ =>
  intro p q g' ps' asg' bd' Q1 Q2 Q h hdp hdq hpq ha hL hx hq σ gh a w hex hR hn hb hA
  simp only [zce, Option.some.injEq, Prod.mk.injEq] at h
  obtain ⟨rfl, ⟨rfl, rfl, rfl, rfl⟩, rfl⟩ := h
  exact loop ha hL (fun a w => hq .normal a w) hex hR hn hb hA
 | block i b _ =>
  intro p q g' ps' asg' bd' Q1 Q2 Q h hdp hdq hpq ha hL hx hq σ gh a w hex hR hn hb hA
  cases b with
  | rangeFunc g ps asg bd =>
   simp only [zce, Option.some.injEq, Prod.mk.injEq] at h
   obtain ⟨rfl, ⟨rfl, rfl, rfl, rfl⟩, rfl⟩ := h
   exact wpIn_block (loop (Q := Exit.inBlock i Q) ha hL (fun a w k => hq .normal a w k) hex hR hn hb hA)
  | _ => simp [zce] at h
 | seq x y ihx ihy =>
  intro p q g' ps' asg' bd' Q1 Q2 Q h hdp hdq hpq ha hL hx hq σ gh a w hex hR hn hb hA
  unfold zce at h
  split at h
  ·rename_i p1 r1 q1 hs
   simp only [Option.some.injEq, Prod.mk.injEq] at h
   obtain ⟨rfl, rfl, rfl⟩ := h
   simp only [za5, zbb, Bool.and_eq_true] at hdq hpq
   refine wpIn_seq (ihx (Q1 := Q1) (Q2 := fun e σ => match e with | .normal => zdi P y σ Q2 | e => Q2 e σ) hs hdp hdq.1 hpq.1 ha hL (fun e a w he k => ?_) (fun e a w k => ?_) hex hR hn hb hA)
   ·have := hx e a w he k
    cases e <;> first | exact absurd rfl he | exact this
   ·cases e with
    | normal => exact wpIn_mono (zll hpq.2 hdq.2 k) hq
    | exit i => exact hq _ _ _ k
    | goto l => exact hq _ _ _ k
    | ret => exact hq _ _ _ k
    | panic ch => exact hq _ _ _ k
    | outgrown => exact hq _ _ _ k
  ·split at h
   ·rename_i p1 r1 q1 hs
    simp only [Option.some.injEq, Prod.mk.injEq] at h
    obtain ⟨rfl, rfl, rfl⟩ := h
    simp only [za5, Bool.and_eq_true] at hdp
    refine wpIn_seq (wpIn_mono (Q := Ends n0 N w0 A0 _) ((wpIn_wide (n := n)).2 (za9 x σ _ hdp.1 hex gh a w hR hn hb hA)) fun e a' w' k => ?_)
    cases e with
    | normal =>
     obtain ⟨σ', g', h1, h2, h3, h4, h5⟩ := k
     exact ihy hs hdp.2 hdq hpq ha hL hx hq h1 h2 h3 h4 h5
    | exit i => exact hx _ _ _ (by simp) k
    | goto l => exact hx _ _ _ (by simp) k
    | ret => exact hx _ _ _ (by simp) k
    | panic ch => exact hx _ _ _ (by simp) k
    | outgrown => exact hx _ _ _ (by simp) k
   ·cases h
 | _ => intro p q g' ps' asg' bd' Q1 Q2 Q h; simp [zce] at h
theorem zsk {n0 : Nat -> Prop} {N : Nat} {σ : St} {g : Gh} {a : Act} {w : World} {fp : List Nat} {sz : Nat} (hR : Rel n0 N σ g a w) (hr : g.R0 = RP.of fun b => b ∈ fp \/ sz <= b) (fn : Func) {res : List D} (hk : zam (zbl P σ fn.results.toList) (fun vs => zk5 σ [] vs res) \/ PX P fn.results.toList res σ) :
  ∃ v, (results fn a.tmps).run P w = .ok v w /\ ∃ us fp' tp', Ending.returned v = .returned (zby us) /\ GDs w res us fp' tp' /\ fp'.Nodup /\ ∀ b ∈ fp', b ∈ fp \/ sz <= b := by
 have fin : ∀ {us : List Value} {v : Value}, (results fn a.tmps).run P w = .ok v w -> v = zby us -> (∃ fp' tp', GDs w res us fp' tp' /\ fp'.Nodup /\ ∀ b ∈ fp', ∃ e, σ.On e /\ b ∈ g.φ e) -> ∃ v, (results fn a.tmps).run P w = .ok v w /\ ∃ us fp' tp', Ending.returned v = .returned (zby us) /\ GDs w res us fp' tp' /\ fp'.Nodup /\ ∀ b ∈ fp', b ∈ fp \/ sz <= b := fun {us v} r1 rv ⟨fp', tp', o1, o2, o3⟩ => by
  refine ⟨_, r1, us, fp', tp', by rw [rv], o1, o2, fun b hb => ?_⟩
  obtain ⟨e, l, m⟩ := o3 b hb
  have := (hR.ebase e l b m).2
  rw [hr] at this
  exact this
 rcases hk with hk | ⟨pl, hk⟩
 ·obtain ⟨vs, hvs, hk⟩ := zan hk
  obtain ⟨us, r1, r2⟩ := zbr hR fn hvs
  obtain ⟨used, fp', tp', o1, o2⟩ := zb2 hR hk r2
  exact fin r1 rfl ⟨fp', tp', o1, o2.1, fun b hb => by obtain ⟨e, _, _, l, m⟩ := o2.2.1 b hb; exact ⟨e, l, m⟩⟩
 ·obtain ⟨vs, hvs, hk⟩ := zan hk
  obtain ⟨us, r1, r2⟩ := zbr hR fn hvs
  exact fin r1 rfl (zsm hR hk r2)
theorem FC_ofB {f : FuncId} {fn : Func} {c p q asg bd : Code} {g : Operand} {ps : Array Tmp} {args res : List D} (hc : zay P f) (hf : P.funcs[f]? = some fn) (hb : fn.body = some c) (hs : zce c = some (p, (g, ps, asg, bd), q))
  (hd : (za5 fn.ntmps p && za5 fn.ntmps q && zbb q && (zbb asg && zbb bd && za5 fn.ntmps asg && za5 fn.ntmps bd)) = true) (hN : (rd args).length <= fn.ntmps)
  (h : ex P p [] (fun e σ => match e with | .normal => zkt P fn.ntmps g ps asg bd q (PS P fn.results.toList res) σ | .ret => PS P fn.results.toList res .ret σ | _ => False) (zet args)) : FC P f args res := by
 refine ⟨hc, fun w vs fp tp hv hn => ?_⟩
 refine (zc6 (r := none) (n := 0)).1 (callsIn_of_wp_marks hf hb trivial ?_)
 obtain ⟨hr, rfl, rfl⟩ := zbu hv
 have hv' : za6 w (fun b => b < w.heap.size /\ True /\ b ∉ ([] : List Nat)) (rd args) vs [] [] := za6.keepA (fun b hb => ⟨hb.1, trivial, hb.2⟩) hv
 obtain ⟨gh, hg, hR⟩ := Rel.start (A0 := fun _ => True) (R0 := RP.of fun b => b ∈ ([] : List Nat) \/ w.heap.size <= b) (N := fn.ntmps) hv' hn (zbx args) hN (fun _ _ => trivial) (fun b hb => ⟨trivial, Or.inl hb⟩) (fun b hb => ⟨trivial, by
  by_cases hlt : b < w.heap.size
  ·exact Or.inl (Classical.byContradiction fun h => hb ⟨hlt, h⟩)
  ·exact Or.inr (by omega)⟩)
 have hR0 : Rel (fun b => b < w.heap.size /\ b ∉ ([] : List Nat)) fn.ntmps (zet args) gh { tmps := (⟨vs⟩ : Array Value) ++ Array.replicate (fn.ntmps - vs.length) undef, defers := [] } w := zia hr hR ⟨rfl, hg⟩
 simp only [Bool.and_eq_true] at hd
 obtain ⟨⟨⟨d1, d2⟩, d3⟩, ⟨d4, d5⟩, d6⟩ := hd
 refine zi1 (n := 0) (w0 := w) hs d1 d2 d3 ⟨d4.1, d4.2, d5, d6⟩ (fun σ h => h) ?_ ?_ h hR0 (fun k hk => hk.1) (Bk.refl _ _) hg
 ·rintro e a' w' he ⟨σ', g', h1, h2, h3, h4, h5⟩
  cases e with
  | normal => exact absurd rfl he
  | ret =>
   have hr0 : g'.R0 = RP.of fun b => b ∈ ([] : List Nat) \/ w.heap.size <= b := (Prod.mk.inj h5).2
   obtain ⟨v, r1, us, fp', tp', r2, r3, r4, r5⟩ := zsk h2 hr0 fn h1
   show LeavesInM _ _ _ _ _ _ a'.defers .returning w'
   rw [h2.defers]
   exact ⟨v, r1, us, fp', tp', r2, r3, r4, r5, h4⟩
  | exit _ => exact h1.elim
  | goto _ => exact h1.elim
  | panic _ => exact h1.elim
  | outgrown => exact h1.elim
 ·rintro e a' w' ⟨D, n1, a1, σ, g', rfl, h1, h2, h3, h4, h5, h6, h7, h8, h9, h10, h11⟩
  have hk : (e = .normal \/ e = .ret) /\ (zam (zbl P σ fn.results.toList) (fun vs => zk5 σ [] vs res) \/ PX P fn.results.toList res σ) := by
   cases e with
   | normal => exact ⟨Or.inl rfl, h1⟩
   | ret => exact ⟨Or.inr rfl, h1⟩
   | exit _ => exact h1.elim
   | goto _ => exact h1.elim
   | panic _ => exact h1.elim
   | outgrown => exact h1.elim
  have q1 := (h2.putObj h6 h9 (.deferred none)).leave (n0 := fun b => b < w.heap.size /\ b ∉ ([] : List Nat)) (A1 := fun _ => True) h8 (fun _ _ => trivial) (fun b hb => ⟨trivial, by
   rw [h11]
   by_cases hlt : b < w.heap.size
   ·exact absurd ⟨hlt, by simp⟩ hb
   ·exact Or.inr (by omega)⟩)
  obtain ⟨v, r1, us, fp', tp', r2, r3, r4, r5⟩ := zsk q1 h11 fn hk.2
  have main : LeavesInM (FR none) 0 P fn a1.tmps (fun e w' => ∃ us fp' tp', e = .returned (zby us) /\ GDs w' res us fp' tp' /\ fp'.Nodup /\ (∀ b ∈ fp', b ∈ ([] : List Nat) \/ w.heap.size <= b) /\ Bk (fun k => k < w.heap.size /\ k ∉ ([] : List Nat)) w w') [{ target := .collected D, args := #[] }] .returning w' :=
   ⟨by simp, Or.inl ⟨D, _, rfl, run_takeDeferred h5, ⟨v, r1, us, fp', tp', r2, r3, r4, r5, h4.trans (Bk.putObj _ h7 _)⟩⟩⟩
  rcases hk.1 with rfl | rfl <;> exact main
end Go.Proofs.YteeaofpphmhjdaaDoor
namespace Go.Proofs.YteeaofpphmhjdaaDoor
set_option linter.unusedSimpArgs false
set_option linter.unusedVariables false
set_option linter.unusedSectionVars false
set_option maxRecDepth 4000
open Go.RowKit
variable {P : Program}
def znd (P : Program) (f f1 : FuncId) : Prop := zay P f /\ ∀ (a : Option Addr) (len cap : Nat) (w : World), Calls P f #[.slice a len cap] w fun e w' => ∃ ty, e = .returned (.func (.func f1) #[] #[.pointer (some ⟨w.heap.size, 0, none⟩)]) /\ w' = w.alloc (.cells #[.slice a len cap] ty)
def St.callB (σ : St) (d : Nat) (f1 : FuncId) (c : C) : St := { sl := upd σ.sl d (.one (.fn f1 [d])), bx := upd σ.bx d (some [c]), ev := σ.ev }
theorem zpj {o : Oper} {σ : St} {x : Operand} {asg : Array Operand} {ts : Array TypeId} {f f1 : FuncId} {d : Nat} {sz : Nat} {rows : List (List T)} (ho : o.op = .call ⟨.value x, asg, ts⟩) (hd : o.dst = some d)
  (h : znd P f f1) (hc : zat (σ.get P 0 x) = some (f, [])) (hv : σ.gets P asg ts = [.one (.rn (.sl sz rows))]) (hb : σ.bx d = none) : zab P o σ (σ.callB d f1 (.rn (.sl sz rows))) := by
 intro n0 N g a w hR hn hdN
 obtain ⟨vs, h1, h2⟩ := zdy hR ho hc h.1
 rw [hv] at h2
 obtain ⟨v, vs', rfl, k1, k2⟩ := h2
 obtain rfl : vs' = [] := k2
 have k0 : CR σ g w (.rn (.sl sz rows)) v := k1
 simp only [VR, CR] at k1
 unfold zag at k1
 obtain ⟨ao, cap, rfl, _⟩ := k1
 unfold Oper.wp
 rw [h1]
 refine (h.2 ao rows.length cap w).mono ?_
 rintro e w' ⟨ty, rfl, rfl⟩
 refine ⟨{ g with β := upd g.β d w.heap.size }, ?_, Bk.of_alloc hn _, rfl, rfl⟩
 have := (hR.newbox hn hb (cs := [.rn (.sl sz rows)]) (vs := [.slice ao rows.length cap]) ⟨_, _, rfl, k0, rfl⟩ ty).put (some d) (x := .one (.fn f1 [d])) (v := .func (.func f1) #[] #[.pointer (some ⟨w.heap.size, 0, none⟩)]) ⟨by simp [upd], by simp [upd]⟩ (fun i hi => by cases hi; exact hdN d hd)
 rw [hd]
 exact this
section
variable {ks : List Fr} {Q : Exit -> St -> Prop} {σ : St} {ops : Array Oper} {os : List Oper} {ty : TypeId} {ps : String} {af : Array Edge}
theorem callB {d : Nat} {x : Operand} {asg : Array Operand} {ts : Array TypeId} {f f1 : FuncId} {sz : Nat} {rows : List (List T)} (h : znd P f f1) (hp : zat (σ.get P 0 x) = some (f, []) /\ σ.gets P asg ts = [.one (.rn (.sl sz rows))] /\ σ.bx d = none)
  (k : exo P ops os ks Q (σ.callB d f1 (.rn (.sl sz rows)))) : exo P ops (⟨some d, .call ⟨.value x, asg, ts⟩, ty, ps, af, none⟩ :: os) ks Q σ :=
 zcw rfl rfl (zpj rfl rfl h hp.1 hp.2.1 hp.2.2) k
end
theorem owK_rn (t : T) (A B : Prop) : owK (.one (.rn t)) A B = B := by simp [owK, isOw]
attribute [go_sem] St.callB owK_rn
end Go.Proofs.YteeaofpphmhjdaaDoor
namespace Go.Proofs.YteeaofpphmhjdaaDoor
set_option linter.unusedSimpArgs false
set_option linter.unusedVariables false
set_option linter.unusedSectionVars false
set_option maxRecDepth 4000
open Go.RowKit
variable {P : Program}
mutual
def GrT (w : World) : T -> T -> List Nat -> Prop
 | .vs a l c, y, ex => zaj w y (.slice a l c) ex
 | .sl sz rows, y, ex => ∃ rows', y = .sl sz rows' /\ zbc w rows rows' ex
 | x, y, ex => y = x /\ ex = []
def zbc (w : World) : List (List T) -> List (List T) -> List Nat -> Prop
 | [], ys, ex => ys = [] /\ ex = []
 | r :: rs, ys, ex => ∃ r' rs' e1 e2, ys = r' :: rs' /\ ex = e1 ++ e2 /\ ze5 w r r' e1 /\ zbc w rs rs' e2
def ze5 (w : World) : List T -> List T -> List Nat -> Prop
 | [], ys, ex => ys = [] /\ ex = []
 | c :: cs, ys, ex => ∃ c' cs' e1 e2, ys = c' :: cs' /\ ex = e1 ++ e2 /\ GrT w c c' e1 /\ ze5 w cs cs' e2
end
theorem zbc.len {w : World} : ∀ {rs ys : List (List T)} {ex : List Nat}, zbc w rs ys ex -> ys.length = rs.length
 | [], ys, ex, h => by unfold zbc at h; rw [h.1]
 | r :: rs, ys, ex, h => by
  unfold zbc at h
  obtain ⟨r', rs', e1, e2, rfl, _, _, h2⟩ := h
  simp [h2.len]
theorem ze5.len {w : World} : ∀ {rs ys : List T} {ex : List Nat}, ze5 w rs ys ex -> ys.length = rs.length
 | [], ys, ex, h => by unfold ze5 at h; rw [h.1]
 | r :: rs, ys, ex, h => by
  unfold ze5 at h
  obtain ⟨r', rs', e1, e2, rfl, _, _, h2⟩ := h
  simp [h2.len]
theorem zs1 {f1 f2 e1 e2 g1 g2 : List Nat} (h : g1.Perm (f1 ++ e1)) (k : g2.Perm (f2 ++ e2)) : (g1 ++ g2).Perm ((f1 ++ f2) ++ (e1 ++ e2)) := by
 refine (h.append k).trans ?_
 rw [List.append_assoc, List.append_assoc]
 refine List.Perm.append_left f1 ?_
 rw [<- List.append_assoc, <- List.append_assoc]
 exact List.Perm.append_right e2 List.perm_append_comm
mutual
theorem GrT.own {w : World} : ∀ (x y : T) (v : Value) (fp ex : List Nat), zaj w x v fp -> GrT w x y ex -> ∃ fp', zaj w y v fp' /\ fp'.Perm (fp ++ ex)
 | .vs a l c, y, v, fp, ex, h, hg => by
  unfold GrT at hg
  unfold zaj at h
  obtain ⟨rfl, rfl⟩ := h
  exact ⟨ex, hg, List.Perm.refl _⟩
 | .sl sz rows, y, v, fp, ex, h, hg => by
  unfold GrT at hg
  obtain ⟨rows', rfl, hg⟩ := hg
  unfold zaj at h
  obtain ⟨ao, cap, h1, h2, h3, h4⟩ := h
  rcases h4 with ⟨rfl, rfl, rfl, rfl⟩ | ⟨b, cells, ty, fps, h4, rfl, h6, h7, h8⟩
  ·unfold zbc at hg
   obtain ⟨rfl, rfl⟩ := hg
   exact ⟨[], by unfold zaj; exact ⟨none, 0, h1, h2, h3, Or.inl ⟨rfl, rfl, rfl, rfl⟩⟩, List.Perm.refl _⟩
  ·obtain ⟨fps', k1, k2⟩ := zbc.own cells 0 sz rows rows' fps ex h8 hg
   refine ⟨b :: fps', ?_, List.Perm.cons b k2⟩
   unfold zaj
   exact ⟨ao, cap, by rw [hg.len]; exact h1, by rw [hg.len]; exact h2, h3, Or.inr ⟨b, cells, ty, fps', h4, rfl, h6, h7, k1⟩⟩
 | .int _ _, y, v, fp, ex, h, hg => by unfold GrT at hg; obtain ⟨rfl, rfl⟩ := hg; exact ⟨fp, h, by simp⟩
 | .bool _, y, v, fp, ex, h, hg => by unfold GrT at hg; obtain ⟨rfl, rfl⟩ := hg; exact ⟨fp, h, by simp⟩
 | .str _, y, v, fp, ex, h, hg => by unfold GrT at hg; obtain ⟨rfl, rfl⟩ := hg; exact ⟨fp, h, by simp⟩
 | .ptr _, y, v, fp, ex, h, hg => by unfold GrT at hg; obtain ⟨rfl, rfl⟩ := hg; exact ⟨fp, h, by simp⟩
 | .fn _ _, y, v, fp, ex, h, hg => by unfold GrT at hg; obtain ⟨rfl, rfl⟩ := hg; exact ⟨fp, h, by simp⟩
 | .mp _ _, y, v, fp, ex, h, hg => by unfold GrT at hg; obtain ⟨rfl, rfl⟩ := hg; exact ⟨fp, h, by simp⟩
 | .pin _ _, y, v, fp, ex, h, hg => by unfold GrT at hg; obtain ⟨rfl, rfl⟩ := hg; exact ⟨fp, h, by simp⟩
theorem zbc.own {w : World} (cells : Array Value) : ∀ (o sz : Nat) (rs ys : List (List T)) (fps ex : List Nat), zac w cells o sz rs fps -> zbc w rs ys ex -> ∃ fps', zac w cells o sz ys fps' /\ fps'.Perm (fps ++ ex)
 | _, _, [], ys, fps, ex, h, hg => by unfold zbc at hg; obtain ⟨rfl, rfl⟩ := hg; exact ⟨fps, h, by simp⟩
 | o, sz, r :: rs, ys, fps, ex, h, hg => by
  unfold zbc at hg
  obtain ⟨r', rs', e1, e2, rfl, rfl, g1, g2⟩ := hg
  unfold zac at h
  obtain ⟨h1, f1, f2, rfl, h2, h3⟩ := h
  obtain ⟨f1', k1, k2⟩ := ze5.own cells o r r' f1 e1 h2 g1
  obtain ⟨f2', l1, l2⟩ := zbc.own cells (o + sz) sz rs rs' f2 e2 h3 g2
  refine ⟨f1' ++ f2', ?_, zs1 k2 l2⟩
  unfold zac
  exact ⟨by rw [g1.len]; exact h1, f1', f2', rfl, k1, l1⟩
theorem ze5.own {w : World} (cells : Array Value) : ∀ (o : Nat) (cs ys : List T) (fps ex : List Nat), zar w cells o cs fps -> ze5 w cs ys ex -> ∃ fps', zar w cells o ys fps' /\ fps'.Perm (fps ++ ex)
 | _, [], ys, fps, ex, h, hg => by unfold ze5 at hg; obtain ⟨rfl, rfl⟩ := hg; exact ⟨fps, h, by simp⟩
 | o, c :: cs, ys, fps, ex, h, hg => by
  unfold ze5 at hg
  obtain ⟨c', cs', e1, e2, rfl, rfl, g1, g2⟩ := hg
  unfold zar at h
  obtain ⟨v, f1, f2, h1, rfl, h2, h3⟩ := h
  obtain ⟨f1', k1, k2⟩ := GrT.own c c' v f1 e1 h2 g1
  obtain ⟨f2', l1, l2⟩ := ze5.own cells (o + 1) cs cs' f2 e2 h3 g2
  refine ⟨f1' ++ f2', ?_, zs1 k2 l2⟩
  unfold zar
  exact ⟨v, f1', f2', h1, rfl, k1, l1⟩
end
theorem ze5.ownG {w : World} : ∀ (cs ys : List T) (vs : List Value) (fp ex tp : List Nat), zml w cs vs fp tp -> ze5 w cs ys ex -> ∃ fp' tp', zml w ys vs fp' tp' /\ fp'.Perm (fp ++ ex)
 | [], ys, vs, fp, ex, tp, h, hg => by unfold ze5 at hg; obtain ⟨rfl, rfl⟩ := hg; exact ⟨fp, tp, h, by simp⟩
 | c :: cs, ys, vs, fp, ex, tp, h, hg => by
  unfold ze5 at hg
  obtain ⟨c', cs', e1, e2, rfl, rfl, g1, g2⟩ := hg
  obtain ⟨v, vs', f1, f2, t2, rfl, rfl, rfl, h2, h3⟩ := h
  obtain ⟨f1', k1, k2⟩ := GrT.own c c' v f1 e1 h2 g1
  obtain ⟨f2', t2', l1, l2⟩ := ze5.ownG cs cs' vs' f2 e2 t2 h3 g2
  exact ⟨f1' ++ f2', ze3 c' f1' ++ t2', ⟨v, vs', f1', f2', t2', rfl, rfl, rfl, k1, l1⟩, zs1 k2 l2⟩
def GrD (w : World) : D -> D -> List Nat -> Prop
 | .one x, .one y, ex => GrT w x y ex
 | .agg xs, .agg ys, ex => ze5 w xs ys ex
 | _, _, _ => False
theorem GrD.own {w : World} {x y : D} {v : Value} {fp ex tp : List Nat} (h : GD w x v fp tp) (hg : GrD w x y ex) : ∃ fp' tp', GD w y v fp' tp' /\ fp'.Perm (fp ++ ex) := by
 cases x with
 | one x =>
  cases y with
  | one y => obtain ⟨fp', h1, h2⟩ := GrT.own x y v fp ex h.1 hg; exact ⟨fp', _, ⟨h1, rfl⟩, h2⟩
  | agg _ => exact hg.elim
 | agg xs =>
  cases y with
  | one _ => exact hg.elim
  | agg ys => obtain ⟨a, rfl, h⟩ := h; obtain ⟨fp', tp', h1, h2⟩ := ze5.ownG xs ys a fp ex tp h hg; exact ⟨fp', tp', ⟨a, rfl, h1⟩, h2⟩
theorem ziv {f : FuncId} {args : List (Bool × D)} {y : D} (hc : zay P f)
  (h : ∀ (w : World) (vs : List Value) (fp tp : List Nat), za6 w (fun b => b < w.heap.size /\ b ∉ fp) args vs fp tp -> fp.Nodup -> ∃ (args' : List D) (x : D) (ex : List Nat), FC P f args' [x] /\ za2 w (fun b => b < w.heap.size) args' vs ∧
   ex.Nodup /\ (∀ b ∈ ex, b ∈ fp /\ b < w.heap.size) /\ ∀ w' : World, (∀ b ∈ ex, w'.heap[b]? = w.heap[b]?) -> GrD w' x y ex) : GC P f args [y] := by
 refine ⟨hc, fun w vs fp tp hv hn => ?_⟩
 obtain ⟨args', x, ex, hf, hr, hen, hlt, hg⟩ := h w vs fp tp hv hn
 have ha : za6 w (fun b => b < w.heap.size /\ b ∉ ([] : List Nat)) (rd args') vs [] [] := by
  clear hf hg hv
  induction args' generalizing vs with
  | nil => exact ⟨hr, rfl, rfl⟩
  | cons d ds ih =>
   obtain ⟨v, vs', rfl, h1, h2⟩ := hr
   refine ⟨v, vs', rfl, ?_, ih _ h2⟩
   have : za2 w (fun b => b < w.heap.size /\ b ∉ ([] : List Nat)) [d] [v] := za2.keep (fun _ _ => rfl) (fun b hb => ⟨hb, by simp⟩) (⟨v, [], rfl, h1, rfl⟩ : za2 w (fun b => b < w.heap.size) [d] [v])
   obtain ⟨_, _, e, h3, _⟩ := this
   cases e; exact h3
 refine (hf.2 w vs [] [] ha List.nodup_nil).mono ?_
 rintro e w' ⟨us, fp', tp', rfl, k1, k2, k3, k4⟩
 obtain ⟨u, us', f1, f2, t1, t2, rfl, rfl, rfl, k5, k6⟩ := k1
 obtain ⟨rfl, rfl, rfl⟩ := k6
 obtain ⟨fp'', tp'', l1, l2⟩ := GrD.own k5 (hg w' fun b hb => k4.block b ⟨(hlt b hb).2, by simp⟩)
 have hnew : ∀ b ∈ f1, w.heap.size <= b := fun b hb => by simpa using k3 b (by simpa using hb)
 refine ⟨[u], fp'', tp'', rfl, ⟨u, [], fp'', [], tp'', [], rfl, by simp, by simp, l1, rfl, rfl, rfl⟩, ?_, fun b hb => ?_, ⟨k4.os, k4.tape, k4.output, k4.size, fun k hk => k4.block k ⟨hk.1, by simp⟩⟩⟩
 ·refine l2.nodup_iff.2 (List.nodup_append.2 ⟨by simpa using k2, hen, fun a ha b hb e => ?_⟩)
  subst e
  have := hnew a ha; have := (hlt a hb).2; omega
 ·rcases List.mem_append.1 (l2.mem_iff.1 hb) with hb | hb
  ·exact Or.inr (hnew b hb)
  ·exact Or.inl (hlt b hb).1
def zo6 (f : Nat -> V) : List Nat -> Prop
 | [] => True
 | i :: is => f i = .one .any /\ zo6 f is
theorem zgb {f : Nat -> V} : ∀ {l : List Nat}, zo6 f l -> ∀ i ∈ l, f i = .one .any
 | [], _, i, hi => by simp at hi
 | j :: l, h, i, hi => by
  rcases List.mem_cons.1 hi with rfl | hi
  ·exact h.1
  ·exact zgb h.2 i hi
def RdB (P : Program) (bd : Code) (σ' : St) (e : Exit) (σ : St) : Prop := match e with
 | .normal => ex P bd [] (fun e σ => match e with | .normal => Wk σ σ' | _ => False) σ
 | _ => False
theorem loopB {N t p1 p2 : Nat} {asg bd q : Code} {Q : Exit -> St -> Prop} {σ : St} {F1 : FuncId} {ag : Bool} {sz : Nat} (hB : zkf P F1 ag sz) (hc : zay P F1) (id : Nat) (H : Nat -> St) (rows : List (List T)) (h1 : (decide (p1 < N) && decide (p2 < N) && decide (t < 1000000)) = true) (h2 : (ag || sz == 1) = true)
  (h3 : ∀ k, (H k).sl t = .one (.fn F1 [id]) /\ (H k).bx id = some [.rn (.sl sz rows)]) (h4 : ∀ k, zo6 (H k).sl (p1 :: p2 :: (zca asg ++ zca bd))) (h6 : Wk σ (H 0))
  (h5 : ∀ k, k < rows.length -> ex P asg [] (RdB P bd (H (k + 1))) (((H k).put (some p1) (.one (.t (.int .i64 ((rows.length - 1 - k : Nat) : Int))))).put (some p2) (zsy ag (rows.getD (rows.length - 1 - k) []))))
  (h7 : ex P q [] Q (H rows.length)) : zkt P N (.tmp t) #[p1, p2] asg bd q Q σ := by
 simp only [Bool.and_eq_true, decide_eq_true_eq, Bool.or_eq_true, beq_iff_eq] at h1 h2
 refine ⟨F1, ag, sz, t, p1, p2, id, H, rows, rfl, rfl, hB, hc, ⟨h1.1.1, h1.1.2, h1.2⟩, h2, h3, fun k => zgb (h4 k), fun k hk => ?_, h6, h7⟩
 refine zbi (fun e σ2 h => ?_) (h5 k hk)
 cases e with
 | normal =>
  refine ⟨rfl, zbi (fun e σ3 h => ?_) h⟩
  cases e with
  | normal => exact ⟨rfl, h⟩
  | exit _ => exact (show False from h).elim
  | goto _ => exact (show False from h).elim
  | ret => exact (show False from h).elim
  | panic _ => exact (show False from h).elim
  | outgrown => exact (show False from h).elim
 | exit _ => exact (show False from h).elim
 | goto _ => exact (show False from h).elim
 | ret => exact (show False from h).elim
 | panic _ => exact (show False from h).elim
 | outgrown => exact (show False from h).elim
def HdB (P : Program) (fn : Func) (res : List D) (g : Operand) (ps : Array Tmp) (asg bd q : Code) (e : Exit) (σ : St) : Prop := match e with
 | .normal => zkt P fn.ntmps g ps asg bd q (PS P fn.results.toList res) σ
 | .ret => PS P fn.results.toList res .ret σ
 | _ => False
theorem zkz (fn : Func) (res : List D) (g : Operand) (ps : Array Tmp) (asg bd q : Code) (σ : St) : HdB P fn res g ps asg bd q .normal σ = zkt P fn.ntmps g ps asg bd q (PS P fn.results.toList res) σ := rfl
theorem zum (fn : Func) (res : List D) (g : Operand) (ps : Array Tmp) (asg bd q : Code) (σ : St) : HdB P fn res g ps asg bd q .ret σ = PS P fn.results.toList res .ret σ := rfl
theorem zli (bd : Code) (σ' σ : St) : RdB P bd σ' .normal σ = ex P bd [] (fun e σ => match e with | .normal => Wk σ σ' | _ => False) σ := rfl
theorem zmo {f : FuncId} {fn : Func} {c p q asg bd : Code} {g : Operand} {ps : Array Tmp} {args res : List D} (hc : zay P f) (hf : P.funcs[f]? = some fn) (hb : fn.body = some c) (hs : zce c = some (p, (g, ps, asg, bd), q))
  (hd : (za5 fn.ntmps p && za5 fn.ntmps q && zbb q && (zbb asg && zbb bd && za5 fn.ntmps asg && za5 fn.ntmps bd)) = true) (hN : (rd args).length <= fn.ntmps)
  (h : ex P p [] (HdB P fn res g ps asg bd q) (zet args)) : FC P f args res :=
 FC_ofB hc hf hb hs hd hN (zbi (fun e σ h => by cases e <;> exact h) h)
attribute [go_sem] zkz zum zli
end Go.Proofs.YteeaofpphmhjdaaDoor
namespace Go.Proofs.YteeaofpphmhjdaaDoor
set_option linter.unusedSimpArgs false
set_option linter.unusedVariables false
set_option linter.unusedSectionVars false
set_option maxRecDepth 4000
open Go.RowKit
variable {P : Program}
def swp (a b e : Nat) : Nat := if e = a then b else if e = b then a else e
theorem zcc (a b e : Nat) : swp a b (swp a b e) = e := by unfold swp; split <;> (try split) <;> (try split) <;> omega
def C.ren (a b : Nat) : C -> C
 | .ow e g => .ow (swp a b e) g
 | .eo e g sz i o => .eo (swp a b e) g sz i o
 | c => c
def V.ren (a b : Nat) : V -> V
 | .one c => .one (c.ren a b)
 | .agg cs => .agg (cs.map (C.ren a b))
 | .tup xs => .tup (xs.map fun x => (x.1, x.2.map (C.ren a b)))
def St.ren (σ : St) (a b : Nat) : St := ⟨fun i => (σ.sl i).ren a b, fun k => (σ.bx k).map (·.map (C.ren a b)), fun e => σ.ev (swp a b e)⟩
def Gh.ren (g : Gh) (a b : Nat) : Gh := { g with ψ := fun e => g.ψ (swp a b e), φ := fun e => g.φ (swp a b e) }
theorem zeh {σ : St} {a b k : Nat} : (σ.ren a b).bx k ≠ none ↔ σ.bx k ≠ none := by unfold St.ren; simp
theorem zn7 {σ : St} {a b e n : Nat} (h : σ.has e n) : (σ.ren a b).has (swp a b e) n := by
 obtain ⟨x, h1, h2⟩ := h
 exact ⟨x, by show σ.ev (swp a b (swp a b e)) = _; rw [zcc]; exact h1, h2⟩
theorem ziu {σ : St} {g : Gh} {w : World} {a b : Nat} : Fix (σ.ren a b) (g.ren a b) w = Fix σ g w := by
 funext q
 refine propext ⟨fun h => ⟨fun k hk => h.1 k (zeh.2 hk), fun e x he ho => ?_, h.2.2⟩, fun h => ⟨fun k hk => h.1 k (zeh.1 hk), fun e x he ho => h.2.1 (swp a b e) x he ho, h.2.2⟩⟩
 have := h.2.1 (swp a b e) x (by show σ.ev (swp a b (swp a b e)) = _; rw [zcc]; exact he) ho
 have e2 : (g.ren a b).φ (swp a b e) = g.φ e := by show g.φ (swp a b (swp a b e)) = _; rw [zcc]
 rwa [e2] at this
theorem zl8 {σ : St} {g : Gh} {w : World} {a b : Nat} : zdd (σ.ren a b) (g.ren a b) w = zdd σ g w := by
 funext q
 unfold zdd
 rw [ziu]
 refine propext ⟨fun h => ⟨h.1, fun e ho hm => h.2 (swp a b e) ?_ ?_⟩, fun h => ⟨h.1, fun e ho hm => h.2 (swp a b e) ho hm⟩⟩
 ·show σ.On (swp a b (swp a b e)); rw [zcc]; exact ho
 ·show q ∈ g.φ (swp a b (swp a b e)); rw [zcc]; exact hm
theorem zos {σ : St} {g : Gh} {w : World} {a b : Nat} {c : C} {v : Value} (h : CR σ g w c v) : CR (σ.ren a b) (g.ren a b) w (c.ren a b) v := by
 have hF := ziu (σ := σ) (g := g) (w := w) (a := a) (b := b)
 have hψ : ∀ e, (g.ren a b).ψ (swp a b e) = g.ψ e := fun e => by show g.ψ (swp a b (swp a b e)) = _; rw [zcc]
 cases c with
 | t x => show zag _ _ _ _; rw [hF]; exact h
 | nl s => exact h
 | ow e n => exact ⟨by show v = (g.ren a b).ψ (swp a b e) n; rw [hψ]; exact h.1, zn7 h.2⟩
 | bx q o => exact ⟨h.1, zeh.2 h.2⟩
 | el cs o => obtain ⟨q, r, h1, h2, h3⟩ := h; exact ⟨q, r, h1, by rw [hF]; exact h2, by rw [hF]; exact h3⟩
 | eo e s sz i o => obtain ⟨q, n, c, h1, h2, h3, h4⟩ := h; exact ⟨q, n, c, by rw [hψ]; exact h1, h2, h3, zn7 h4⟩
 | fn f caps => exact ⟨h.1, fun q hq => zeh.2 (h.2 q hq)⟩
 | cv u => exact h
 | any => trivial
 | rn x => show zag _ _ _ _; rw [zl8]; exact h
 | er cs o => obtain ⟨q, r, h1, h2, h3⟩ := h; exact ⟨q, r, h1, by rw [zl8]; exact h2, by rw [zl8]; exact h3⟩
theorem zg3 {σ : St} {g : Gh} {w : World} {a b : Nat} : ∀ {cs : List C} {vs : List Value}, CRs σ g w cs vs -> CRs (σ.ren a b) (g.ren a b) w (cs.map (C.ren a b)) vs
 | [], _, h => h
 | c :: cs, _, h => by obtain ⟨v, vs', rfl, h1, h2⟩ := h; exact ⟨v, vs', rfl, zos h1, zg3 h2⟩
theorem zna {σ : St} {g : Gh} {w : World} {a b : Nat} : ∀ {xs : List (Bool × List C)} {vs : List Value}, CRt σ g w xs vs -> CRt (σ.ren a b) (g.ren a b) w (xs.map fun x => (x.1, x.2.map (C.ren a b))) vs
 | [], _, h => h
 | x :: xs, _, h => by
  obtain ⟨v, vs', rfl, h1, h2⟩ := h
  refine ⟨v, vs', rfl, ?_, zna h2⟩
  unfold CRx at h1 ⊢
  split at h1
  ·rw [if_pos ‹_›]; obtain ⟨q, h3, h4⟩ := h1; exact ⟨q, h3, zg3 h4⟩
  ·rw [if_neg ‹_›]; obtain ⟨c, h3, h4⟩ := h1; exact ⟨c.ren a b, by simp [h3], zos h4⟩
theorem vr_ren {σ : St} {g : Gh} {w : World} {a b : Nat} {x : V} {v : Value} (h : VR σ g w x v) : VR (σ.ren a b) (g.ren a b) w (x.ren a b) v := by
 cases x with
 | one c => exact zos h
 | agg cs => obtain ⟨q, h1, h2⟩ := h; exact ⟨q, h1, zg3 h2⟩
 | tup xs => obtain ⟨q, h1, h2⟩ := h; exact ⟨q, h1, zna h2⟩
theorem zf6 {σ : St} {a b e : Nat} (h : (σ.ren a b).On e) : σ.On (swp a b e) := h
theorem Rel.ren {n0 : Nat -> Prop} {N : Nat} {σ : St} {g : Gh} {ac : Act} {w : World} (h : Rel n0 N σ g ac w) (a b : Nat) : Rel n0 N (σ.ren a b) (g.ren a b) ac w := by
 have hF := ziu (σ := σ) (g := g) (w := w) (a := a) (b := b)
 refine ⟨h.defers, h.size, h.anew, fun i => vr_ren (h.slots i), fun k cs hk => ?_, fun k hk => h.base k (zeh.1 hk), fun k k' h1 h2 => h.inj k k' (zeh.1 h1) (zeh.1 h2), fun e x he ho => ?_, fun e x he ho => ?_, fun e n => h.slc (swp a b e) n, fun e he => h.ebase _ (zf6 he), fun e he => h.etop _ (zf6 he), fun e he => h.nodup _ (zf6 he), fun e e' he he' hne => h.apart _ _ (zf6 he) (zf6 he') (fun k => hne (by rw [<- zcc a b e, k, zcc])), fun e k he hk => h.ebx _ k (zf6 he) (zeh.1 hk)⟩
 ·obtain ⟨cs0, h1, rfl⟩ := Option.map_eq_some_iff.1 hk
  obtain ⟨vs, ty, k1, k2⟩ := h.boxes k cs0 h1
  exact ⟨vs, ty, k1, zg3 k2⟩
 ·rw [hF]; exact h.evs (swp a b e) x he ho
 ·rw [hF]; exact h.offs (swp a b e) x he ho
theorem zjq (a b : Nat) : ∀ (l : List (Nat × V)) (i : Nat), (zfn l i).ren a b = zfn (l.map fun p => (p.1, p.2.ren a b)) i
 | [], i => rfl
 | (j, v) :: l, i => by
  simp only [List.map_cons, zfn]
  split
  ·rfl
  ·exact zjq a b l i
theorem zpq {α β : Type} (f : α -> β) : ∀ (l : List (Nat × α)) (i : Nat), (tbl l i).map f = tbl (l.map fun p => (p.1, f p.2)) i
 | [], i => rfl
 | (j, v) :: l, i => by
  simp only [List.map_cons, tbl]
  split
  ·rfl
  ·exact zpq f l i
theorem zn0 {α : Type} (a b : Nat) : ∀ (l : List (Nat × α)) (i : Nat), tbl l (swp a b i) = tbl (l.map fun p => (swp a b p.1, p.2)) i
 | [], i => rfl
 | (j, v) :: l, i => by
  simp only [List.map_cons, tbl]
  by_cases h : swp a b i = j
  ·rw [if_pos h, if_pos (by rw [<- h, zcc])]
  ·rw [if_neg h, if_neg (fun e => h (by rw [e, zcc]))]
   exact zn0 a b l i
theorem zjy (a b : Nat) (l : List (Nat × V)) (bl : List (Nat × List C)) (el : List (Nat × Ev)) : Wk (hd l bl el) (hd (l.map fun p => (p.1, p.2.ren a b)) (bl.map fun p => (p.1, p.2.map (C.ren a b))) (el.map fun p => (swp a b p.1, p.2))) := fun n0 N g ac w hR => by
 have e : (hd l bl el).ren a b = hd (l.map fun p => (p.1, p.2.ren a b)) (bl.map fun p => (p.1, p.2.map (C.ren a b))) (el.map fun p => (swp a b p.1, p.2)) := by
  unfold hd St.ren
  simp only [St.mk.injEq]
  exact ⟨funext fun i => zjq a b l i, funext fun k => zpq _ bl k, funext fun e => zn0 a b el e⟩
 exact ⟨g.ren a b, e ▸ hR.ren a b, rfl, rfl⟩
end Go.Proofs.YteeaofpphmhjdaaDoor
namespace Go.Proofs.YteeaofpphmhjdaaDoor
set_option linter.unusedSimpArgs false
set_option linter.unusedVariables false
set_option linter.unusedSectionVars false
set_option maxRecDepth 4000
open Go.RowKit
variable {P : Program}
def C.evs : C -> List Nat
 | .ow e _ => [e]
 | .eo e _ _ _ _ => [e]
 | _ => []
def C.bxs : C -> List Nat
 | .bx b _ => [b]
 | .fn _ caps => caps
 | _ => []
def V.alls : V -> List C
 | .one c => [c]
 | .agg cs => cs
 | .tup xs => xs.flatMap (·.2)
def ins (x : Nat) : List Nat -> List Nat
 | [] => [x]
 | y :: l => if x = y then y :: l else y :: ins x l
def zgf : List Nat -> List Nat -> List Nat
 | [], l => l
 | x :: xs, l => zgf xs (ins x l)
def noK (x : Nat) : List Nat -> Bool
 | [] => true
 | y :: l => if x = y then false else noK x l
def dif (l : List Nat) : List Nat -> List Nat
 | [] => []
 | x :: xs => if noK x l = true then x :: dif l xs else dif l xs
def zrk : List C -> List Nat
 | [] => []
 | c :: cs => c.bxs ++ zrk cs
def zqn : List C -> List Nat
 | [] => []
 | c :: cs => c.evs ++ zqn cs
def St.kb0 (σ : St) : List Nat -> List Nat
 | [] => []
 | i :: L => zgf (zrk (σ.sl i).alls) (σ.kb0 L)
def St.kb1 (σ : St) : List Nat -> List Nat
 | [] => []
 | b :: B => zgf (b :: zrk ((σ.bx b).getD [])) (σ.kb1 B)
def St.KB (σ : St) (L : List Nat) : List Nat := σ.kb1 (σ.kb0 L)
def St.ke0 (σ : St) : List Nat -> List Nat
 | [] => []
 | i :: L => zgf (zqn (σ.sl i).alls) (σ.ke0 L)
def St.ke1 (σ : St) (l : List Nat) : List Nat -> List Nat
 | [] => l
 | b :: B => zgf (zqn ((σ.bx b).getD [])) (σ.ke1 l B)
def St.KE (σ : St) (L : List Nat) : List Nat := σ.ke1 (σ.ke0 L) (σ.KB L)
def St.lL (σ : St) (L : List Nat) : List (Nat × V) := L.map fun i => (i, σ.sl i)
def St.lB (σ : St) (B : List Nat) : List (Nat × List C) := B.map fun b => (b, (σ.bx b).getD [])
def St.lE (σ : St) (E : List Nat) : List (Nat × Ev) := E.map fun e => (e, (σ.ev e).getD ⟨false, 0, [], 0, false⟩)
def St.hL (σ : St) (L : List Nat) : St := hd (σ.lL L) (σ.lB (σ.KB L)) (σ.lE (σ.KE L))
def wkK (σ : St) (L : List Nat) : Prop := wkL σ (σ.hL L) (σ.lL L) /\ wkB σ (σ.hL L) (σ.lB (σ.KB L)) /\ wkE σ (σ.lE (σ.KE L))
section
variable {ks : List Fr} {Q : Exit -> St -> Prop} {σ : St} {ops : Array Oper} {os : List Oper} {ty : TypeId} {ps : String} {af : Array Edge} {dst : Option Nat} {x : Operand} {asx : Array Operand} {ts : Array TypeId} {f : FuncId}
theorem zoi {pre : List D} {d : D} {post : List D} {d' : D} {res : List D} (L : List Nat) (h : IC P f pre d post d' res) (hw : wkK σ L)
  (hd1 : ((σ.lL L).all fun p => p.2.mOk) = true) (hd2 : ((σ.lB (σ.KB L)).all fun p => p.2.all C.mOk) = true) (hd3 : ((σ.lE (σ.KE L)).all fun p => p.2.on && p.2.deep) = true)
  (hp : zam (zat ((σ.hL L).get P 0 x)) fun p => p.1 = f /\ spI ((σ.hL L).gets P asx ts ++ p.2) pre.length fun p1 gv p2 => zk1 p1 pre /\ zk1 p2 post /\ inG (σ.hL L) gv d d') (hr : res.all D.fl = true)
  (k : exo P ops os ks Q ((σ.hL L).cI P x asx ts pre.length dst d' res)) : exo P ops (⟨dst, .call ⟨.value x, asx, ts⟩, ty, ps, af, none⟩ :: os) ks Q σ :=
 zkc h hw hd1 hd2 hd3 hp hr k
theorem zok {d : Nat} {ds : List (Bool × D)} {res : List D} (L A : List Nat) (pl : List (Nat × Nat × Nat)) (h : GC P f ds res)
  (hw : wkL σ (hd (σ.lL A ++ σ.lL L) (σ.lB (dif (σ.KB L) (σ.KB A)) ++ σ.lB (σ.KB L)) (σ.lE (dif (σ.KE L) (σ.KE A)) ++ σ.lE (σ.KE L))) (σ.lL A ++ σ.lL L) /\ wkB σ (hd (σ.lL A ++ σ.lL L) (σ.lB (dif (σ.KB L) (σ.KB A)) ++ σ.lB (σ.KB L)) (σ.lE (dif (σ.KE L) (σ.KE A)) ++ σ.lE (σ.KE L))) (σ.lB (dif (σ.KB L) (σ.KB A)) ++ σ.lB (σ.KB L)) /\ wkE σ (σ.lE (dif (σ.KE L) (σ.KE A)) ++ σ.lE (σ.KE L)))
  (hk : zdj (σ.lL L) (σ.lL A) /\ zdj (σ.lB (σ.KB L)) (σ.lB (dif (σ.KB L) (σ.KB A))) /\ zdj (σ.lE (σ.KE L)) (σ.lE (dif (σ.KE L) (σ.KE A))) /\ okL (σ.hL L) (σ.lL L) /\ okB (σ.hL L) (σ.lB (σ.KB L)) /\ okE (σ.lE (σ.KE L)))
  (hp : zam (zat ((hd (σ.lL A ++ σ.lL L) (σ.lB (dif (σ.KB L) (σ.KB A)) ++ σ.lB (σ.KB L)) (σ.lE (dif (σ.KE L) (σ.KE A)) ++ σ.lE (σ.KE L))).get P 0 x)) fun p => p.1 = f /\ gvA (hd (σ.lL A ++ σ.lL L) (σ.lB (dif (σ.KB L) (σ.KB A)) ++ σ.lB (σ.KB L)) (σ.lE (dif (σ.KE L) (σ.KE A)) ++ σ.lE (σ.KE L))) (zmz (σ.lE (σ.KE L))) [] pl ((hd (σ.lL A ++ σ.lL L) (σ.lB (dif (σ.KB L) (σ.KB A)) ++ σ.lB (σ.KB L)) (σ.lE (dif (σ.KE L) (σ.KE A)) ++ σ.lE (σ.KE L))).gets P asx ts ++ p.2) ds)
  (hf : zd4 d 0 (zaq res) (σ.hL L).ev) (k : exo P ops os ks Q ((σ.hL L).callF d res)) : exo P ops (⟨some d, .call ⟨.value x, asx, ts⟩, ty, ps, af, none⟩ :: os) ks Q σ :=
 zus (σ.lL A) (σ.lL L) _ _ _ _ pl h hw hk hp hf k
theorem zai.lt {w : World} : ∀ {cs : List T} {vs : List Value} {fps : List Nat}, zai w cs vs fps -> ∀ b ∈ fps, b < w.heap.size
 | [], _, _, h, b, hb => by rw [h.2] at hb; simp at hb
 | c :: cs, _, _, h, b, hb => by
  obtain ⟨v, vs', f1, f2, rfl, rfl, h1, h2⟩ := h
  rcases List.mem_append.1 hb with hb | hb
  ·exact zaj.lt c v f1 h1 b hb
  ·exact zai.lt h2 b hb
end
def gVN (k : Nat) : Bool × D -> V
 | (false, d) => d.toN
 | (true, d) => gV k (true, d)
def zeq : Nat -> List (Bool × D) -> Nat -> V
 | _, [] => fun _ => .one .any
 | k, d :: ds => upd (zeq (k + 1) ds) k (gVN k d)
def zeo (args : List (Bool × D)) : St := ⟨zeq 0 args, fun _ => none, zd6 0 args⟩
theorem zh6 : ∀ (ds : List (Bool × D)) (k i : Nat), zeq k ds (k + i) = match ds[i]? with | some d => gVN (k + i) d | none => .one .any
 | [], k, i => by simp [zeq]
 | d :: ds, k, 0 => by simp [zeq, upd]
 | d :: ds, k, i + 1 => by
  unfold zeq
  rw [zaf _ _ (by omega), show k + (i + 1) = k + 1 + i by omega, zh6 ds (k + 1) i]
  simp
theorem za6.atR {w : World} {A : Nat -> Prop} : ∀ {ds : List (Bool × D)} {vs : List Value} {fp tp : List Nat}, za6 w A ds vs fp tp -> ∀ (i : Nat) d, ds[i]? = some (false, d) -> ∃ v, vs[i]? = some v /\ znx w A d v
 | [], _, _, _, _, i, d, h => by simp at h
 | (false, e) :: ds, _, _, _, h, 0, d, hi => by
  obtain ⟨v, vs', rfl, h1, _⟩ := h
  simp only [List.getElem?_cons_zero, Option.some.injEq, Prod.mk.injEq, true_and] at hi
  subst hi
  exact ⟨v, rfl, h1⟩
 | (true, e) :: ds, _, _, _, h, 0, d, hi => by simp at hi
 | (false, e) :: ds, _, _, _, h, i + 1, d, hi => by
  obtain ⟨v, vs', rfl, _, h2⟩ := h
  simpa using za6.atR h2 i d (by simpa using hi)
 | (true, e) :: ds, _, _, _, h, i + 1, d, hi => by
  obtain ⟨v, vs', f1, f2, t1, t2, rfl, rfl, rfl, _, h2⟩ := h
  simpa using za6.atR h2 i d (by simpa using hi)
theorem Rel.frOld {n0 : Nat -> Prop} {N : Nat} {σ : St} {g : Gh} {a : Act} {w : World} (h : Rel n0 N σ g a w) {b : Nat} (h1 : n0 b) (h2 : b < w.heap.size) (h3 : g.A0 b) : zdd σ g w b :=
 ⟨⟨fun k hk e => h.base k hk (e ▸ h1), fun e x hx ho hh => h.etop e ⟨x, hx, ho⟩ b (List.mem_of_mem_head? hh) h1, h2, h3⟩, fun e ho hm => h.etop e ho b hm h1⟩
theorem zla {args : List (Bool × D)} {w : World} {vs : List Value} {fp tp : List Nat} {N : Nat} {g : Gh} {a : Act} (hv : za6 w (fun b => b < w.heap.size /\ b ∉ fp) args vs fp tp) (hR : Rel (fun b => b < w.heap.size /\ b ∉ fp) N (zdl args) g a w)
  (ht : a.tmps = (⟨vs⟩ : Array Value) ++ Array.replicate (N - vs.length) undef) (hA : ∀ b, g.A0 b) : Rel (fun b => b < w.heap.size /\ b ∉ fp) N (zeo args) g a w := by
 have hm : Mv (zdl args) (zeo args) g g w w := Mv.of_eq g w rfl rfl
 refine hR.slots_of (σ' := zeo args) rfl rfl hR.defers hR.size fun i => ?_
 refine (Mv.of_eq (σ := zeo args) (σ' := zdl args) g w rfl rfl).vr (σ := zeo args) ?_
 have hi := zh6 args 0 i
 rw [Nat.zero_add] at hi
 show VR _ _ _ (zeq 0 args i) _
 rw [hi]
 cases hd : args[i]? with
 | none => trivial
 | some p =>
  obtain ⟨b, d⟩ := p
  cases b with
  | true =>
   have h0 := hm.vr (hR.slots i)
   have hj := zgx args 0 i
   rw [Nat.zero_add, hd] at hj
   have h0' : VR (zeo args) g w (zd3 0 args i) (a.tmps.getD i (g.R0.ξ i)) := h0
   rw [hj] at h0'
   exact h0'
  | false =>
   obtain ⟨v, hv1, hv2⟩ := za6.atR hv i d hd
   have hlt : i < vs.length := (List.getElem?_eq_some_iff.1 hv1).1
   have e : a.tmps.getD i (g.R0.ξ i) = v := by
    rw [ht, Array.getD_eq_getD_getElem?, Array.getElem?_append_left (by simpa using hlt)]
    simp [hv1]
   rw [e]
   exact hm.vr (zst (fun b hb => hR.frOld hb hb.1 (hA b)) hv2)
theorem GC_ofN {f : FuncId} {fn : Func} {c : Code} {args : List (Bool × D)} {res : List D} (hc : zay P f) (hf : P.funcs[f]? = some fn) (hb : fn.body = some c) (hd : za5 fn.ntmps c = true) (hN : args.length <= fn.ntmps) (hs : zb7 args)
  (h : ex P c [] (PS P fn.results.toList res) (zeo args)) : GC P f args res :=
 zsu hc hf hb hd hN hs fun w vs fp tp hv g a hR hg => ⟨_, h, zla hv hR hg.1 fun b => by rw [(Prod.mk.inj hg.2).1]; trivial⟩
attribute [go_sem] C.evs C.bxs V.alls ins zgf noK dif zrk zqn St.kb0 St.kb1 St.KB St.ke0 St.ke1 St.KE St.lL St.lB St.lE St.hL wkK gVN zeq zeo C.ren V.ren swp
end Go.Proofs.YteeaofpphmhjdaaDoor
namespace Go.Proofs.YteeaofpphmhjdaaDoor
set_option linter.unusedSimpArgs false
set_option linter.unusedVariables false
set_option linter.unusedSectionVars false
set_option maxRecDepth 4000
open Go.RowKit
variable {P : Program}
attribute [go_sem] zra zti
end Go.Proofs.YteeaofpphmhjdaaDoor
namespace Go.Proofs.YteeaofpphmhjdaaDoor
theorem ag_3 : zqv Tryd.prog 3 = some false := by kernel_rfl
theorem sz_3 : za8 Tryd.prog 3 = some 1 := by kernel_rfl
theorem in_3 : zpt Tryd.prog 3 = some .i64 := by kernel_rfl
theorem ze_3 : zcv Tryd.prog 3 = some [.t (.int .i64 0)] := by kernel_rfl
theorem bo_4 : zof Tryd.prog 4 = true := by kernel_rfl
theorem sz_5 : za8 Tryd.prog 5 = some 1 := by kernel_rfl
theorem in_5 : zpt Tryd.prog 5 = some .u8 := by kernel_rfl
theorem ze_5 : zcv Tryd.prog 5 = some [.t (.int .u8 0)] := by kernel_rfl
theorem ag_9 : zqv Tryd.prog 9 = some false := by kernel_rfl
theorem sz_9 : za8 Tryd.prog 9 = some 1 := by kernel_rfl
theorem in_9 : zpt Tryd.prog 9 = none := by kernel_rfl
theorem st_9 : zpw Tryd.prog 9 = true := by kernel_rfl
theorem nl_22 : nlT Tryd.prog 22 = 1 := by kernel_rfl
theorem el_22 : elT Tryd.prog 22 = some 3 := by kernel_rfl
theorem zuo : zc1 Tryd.prog 3 = some 8 := by kernel_rfl
theorem ag_23 : zqv Tryd.prog 23 = some false := by kernel_rfl
theorem sz_23 : za8 Tryd.prog 23 = some 1 := by kernel_rfl
theorem el_23 : elT Tryd.prog 23 = some 25 := by kernel_rfl
theorem zj7 : zc1 Tryd.prog 25 = some 40 := by kernel_rfl
theorem ag_25 : zqv Tryd.prog 25 = some true := by kernel_rfl
theorem sz_25 : za8 Tryd.prog 25 = some 2 := by kernel_rfl
theorem ze_25 : zcv Tryd.prog 25 = some [.t (.str []), .nl 2] := by kernel_rfl
theorem pl_25 : plsT Tryd.prog 25 = some [(0, 1), (1, 1)] := by kernel_rfl
theorem ztt : zkq Tryd.prog 25 0 = some (0, 9) := by kernel_rfl
theorem zuv : zkq Tryd.prog 25 1 = some (1, 23) := by kernel_rfl
theorem ag_26 : zqv Tryd.prog 26 = some false := by kernel_rfl
theorem sz_26 : za8 Tryd.prog 26 = some 1 := by kernel_rfl
theorem el_26 : elT Tryd.prog 26 = some 28 := by kernel_rfl
theorem zjv : zc1 Tryd.prog 28 = some 88 := by kernel_rfl
theorem ag_28 : zqv Tryd.prog 28 = some true := by kernel_rfl
theorem sz_28 : za8 Tryd.prog 28 = some 5 := by kernel_rfl
theorem ze_28 : zcv Tryd.prog 28 = some [.t (.int .i64 0), .t (.str []), .nl 2, .t (.str []), .nl 5] := by kernel_rfl
theorem pl_28 : plsT Tryd.prog 28 = some [(0, 1), (1, 2), (3, 1), (4, 1)] := by kernel_rfl
theorem ztm : zkq Tryd.prog 28 0 = some (0, 3) := by kernel_rfl
theorem zuk : zkq Tryd.prog 28 1 = some (1, 25) := by kernel_rfl
theorem zuf : zkq Tryd.prog 28 2 = some (3, 9) := by kernel_rfl
theorem zup : zkq Tryd.prog 28 3 = some (4, 26) := by kernel_rfl
theorem el_56 : elT Tryd.prog 56 = some 5 := by kernel_rfl
theorem us_56 : u8S Tryd.prog 56 = true := by kernel_rfl
theorem in_56 : zpt Tryd.prog 56 = none := by kernel_rfl
theorem ap_23 : apT Tryd.prog 23 2 := zso el_23 sz_25 zj7 (by decide) ze_25 rfl
theorem ap_26 : apT Tryd.prog 26 5 := zso el_26 sz_28 zjv (by decide) ze_28 rfl
attribute [go_sem] ag_3 sz_3 in_3 ze_3 bo_4 sz_5 in_5 ze_5 ag_9 sz_9 in_9 st_9 nl_22 el_22 zuo ag_23 sz_23 el_23 zj7 ag_25 sz_25 ze_25 pl_25 ztt zuv ag_26 sz_26 el_26 zjv ag_28 sz_28 ze_28 pl_28 ztm zuk zuf zup el_56 us_56 in_56 ap_23 ap_26
attribute [go_sem] Nat.reduceEqDiff reduceIte reduceCtorEq Nat.reduceAdd Nat.reduceMul Int.reduceLE Int.reduceNeg Int.reduceToNat Nat.reduceLeDiff Nat.reduceSub Nat.reduceLT Nat.le_refl Int.cast_ofNat_Int Int.reduceLT Int.reduceGT Int.reduceGE Int.reduceEq Int.reduceBEq Nat.reduceBEq Int.reduceBNe Int.reduceAdd Int.reduceSub gt_iff_lt ge_iff_le
end Go.Proofs.YteeaofpphmhjdaaDoor
namespace Go.Proofs.YteeaofpphmhjdaaDoor
set_option linter.unusedSimpArgs false
set_option linter.unusedVariables false
set_option linter.unusedSectionVars false
set_option maxRecDepth 4000
open Go.RowKit
abbrev Str := List UInt8
inductive Tm where
 | mk (name : Str) (args : List Tm)
def Tm.name : Tm -> Str | .mk n _ => n
def Tm.args : Tm -> List Tm | .mk _ xs => xs
theorem Tm.eta : ∀ a : Tm, Tm.mk a.name a.args = a | .mk _ _ => rfl
mutual
theorem zhw {P : Tm -> Prop} (h : ∀ n xs, (∀ x ∈ xs, P x) -> P (.mk n xs)) : ∀ a, P a
 | .mk n xs => h n xs (zpi h xs)
theorem zpi {P : Tm -> Prop} (h : ∀ n xs, (∀ x ∈ xs, P x) -> P (.mk n xs)) : ∀ xs : List Tm, ∀ x ∈ xs, P x
 | [], x, hx => absurd hx (by simp)
 | a :: xs, x, hx => (List.mem_cons.1 hx).elim (fun e => e ▸ zhw h a) (zpi h xs x)
end
mutual
def Tm.fold {α : Type} (f : Str -> List Tm -> List α -> α) : Tm -> α
 | .mk n xs => f n xs (Tm.folds f xs)
def Tm.folds {α : Type} (f : Str -> List Tm -> List α -> α) : List Tm -> List α
 | [] => []
 | a :: xs => Tm.fold f a :: Tm.folds f xs
end
theorem Tm.folds_map {α : Type} (f : Str -> List Tm -> List α -> α) (xs : List Tm) : Tm.folds f xs = xs.map (Tm.fold f) := by
 induction xs with
 | nil => rfl
 | cons a xs ih => rw [Tm.folds, ih]; rfl
theorem Tm.fold_eq {α : Type} (f : Str -> List Tm -> List α -> α) (a : Tm) : Tm.fold f a = f a.name a.args (a.args.map (Tm.fold f)) := by
 cases a; rw [Tm.fold, Tm.folds_map]; rfl
inductive Fm where
 | mk (op : Int) (atom : Tm) (var : Str) (parts : List Fm)
def Fm.op : Fm -> Int | .mk o _ _ _ => o
def Fm.atom : Fm -> Tm | .mk _ a _ _ => a
def Fm.var : Fm -> Str | .mk _ _ v _ => v
def Fm.parts : Fm -> List Fm | .mk _ _ _ ps => ps
theorem Fm.eta : ∀ a : Fm, Fm.mk a.op a.atom a.var a.parts = a | .mk _ _ _ _ => rfl
mutual
theorem zim {P : Fm -> Prop} (h : ∀ o a v ps, (∀ x ∈ ps, P x) -> P (.mk o a v ps)) : ∀ f, P f
 | .mk o a v ps => h o a v ps (zpf h ps)
theorem zpf {P : Fm -> Prop} (h : ∀ o a v ps, (∀ x ∈ ps, P x) -> P (.mk o a v ps)) : ∀ xs : List Fm, ∀ x ∈ xs, P x
 | [], x, hx => absurd hx (by simp)
 | a :: xs, x, hx => (List.mem_cons.1 hx).elim (fun e => e ▸ zim h a) (zpf h xs x)
end
mutual
def Fm.fold {α : Type} (f : Int -> Tm -> Str -> List Fm -> List α -> α) : Fm -> α
 | .mk o a v ps => f o a v ps (Fm.folds f ps)
def Fm.folds {α : Type} (f : Int -> Tm -> Str -> List Fm -> List α -> α) : List Fm -> List α
 | [] => []
 | a :: xs => Fm.fold f a :: Fm.folds f xs
end
theorem Fm.folds_map {α : Type} (f : Int -> Tm -> Str -> List Fm -> List α -> α) (xs : List Fm) : Fm.folds f xs = xs.map (Fm.fold f) := by
 induction xs with
 | nil => rfl
 | cons a xs ih => rw [Fm.folds, ih]; rfl
theorem Fm.fold_eq {α : Type} (f : Int -> Tm -> Str -> List Fm -> List α -> α) (a : Fm) : Fm.fold f a = f a.op a.atom a.var a.parts (a.parts.map (Fm.fold f)) := by
 cases a; rw [Fm.fold, Fm.folds_map]; rfl
def tmC : Tm -> List T := Tm.fold fun n _ rs => [.str n, .sl 2 rs]
theorem zap (a : Tm) : tmC a = [.str a.name, .sl 2 (a.args.map tmC)] := Tm.fold_eq _ a
def fmC : Fm -> List T := Fm.fold fun o a v _ rs => [.int .i64 o, .str a.name, .sl 2 (a.args.map tmC), .str v, .sl 5 rs]
theorem zao (a : Fm) : fmC a = [.int .i64 a.op, .str a.atom.name, .sl 2 (a.atom.args.map tmC), .str a.var, .sl 5 (a.parts.map fmC)] := Fm.fold_eq _ a
theorem tmC_mk (n : Str) (xs : List Tm) : tmC (.mk n xs) = [.str n, .sl 2 (xs.map tmC)] := zap _
theorem zf5 (o : Int) (a : Tm) (v : Str) (ps : List Fm) : fmC (.mk o a v ps) = [.int .i64 o, .str a.name, .sl 2 (a.args.map tmC), .str v, .sl 5 (ps.map fmC)] := zao _
abbrev tmD (a : Tm) : D := .agg (tmC a)
abbrev fmD (a : Fm) : D := .agg (fmC a)
abbrev tmS (xs : List Tm) : T := .sl 2 (xs.map tmC)
abbrev fmS (xs : List Fm) : T := .sl 5 (xs.map fmC)
abbrev iD (n : Int) : D := .one (.int .i64 n)
abbrev bD (b : Bool) : D := .one (.bool b)
abbrev sD (s : Str) : D := .one (.str s)
theorem zaz {α : Type} (f : α -> List T) (xs : List α) (k : Nat) (h : k < xs.length) : (xs.map f).getD k [] = f (xs[k]'h) := by simp [List.getD, h]
def Tm.wt : Tm -> Nat := Tm.fold fun n xs rs => n.length + xs.length + rs.sum
theorem Tm.wt_eq (a : Tm) : a.wt = a.name.length + a.args.length + (a.args.map Tm.wt).sum := Tm.fold_eq _ a
def Fm.wt : Fm -> Nat := Fm.fold fun _ a v ps rs => a.wt + v.length + ps.length + rs.sum
theorem Fm.wt_eq (a : Fm) : a.wt = a.atom.wt + a.var.length + a.parts.length + (a.parts.map Fm.wt).sum := Fm.fold_eq _ a
def tmsW (xs : List Tm) : Nat := xs.length + (xs.map Tm.wt).sum
def fmsW (xs : List Fm) : Nat := xs.length + (xs.map Fm.wt).sum
theorem zo1 {α : Type} (f : α -> Nat) (xs : List α) : ∀ x ∈ xs, f x <= (xs.map f).sum := by
 induction xs with
 | nil => simp
 | cons a xs ih =>
  intro x hx
  rcases List.mem_cons.1 hx with rfl | hx
  ·simp
  ·have := ih x hx; simp; omega
noncomputable def same {α : Type} (a b : α) : Bool := @decide (a = b) (Classical.propDecidable _)
theorem zcb {α : Type} {a b : α} : same a b = true ↔ a = b := by simp [same]
theorem zcd {α : Type} {a b : α} : same a b = false ↔ a ≠ b := by simp [same]
theorem za1 {α : Type} (a : α) : same a a = true := by simp [same]
theorem zci {α : Type} (a b : α) (xs ys : List α) : same (a :: xs) (b :: ys) = (same a b && same xs ys) := by
 rw [Bool.eq_iff_iff, Bool.and_eq_true, zcb, zcb, zcb, List.cons.injEq]
theorem zg0 {α : Type} : same ([] : List α) [] = true := za1 _
theorem za4 {k : Nat} (h : k < 9223372036854775807) : IntKind.i64.wrap ((k : Int) + 1) = ((k + 1 : Nat) : Int) := zlz h
theorem zsi {k : IntKind} {a b : Int} (h : a = b) : T.int k a = T.int k b := h ▸ rfl
theorem zo9 (A : List (List T)) (n k : Nat) (z ts : List T) (hA : A.length = k) (hk : k < n) (hz : ts.length = z.length) : zcm (A ++ List.replicate (n - k) z) k 0 ts = A ++ [ts] ++ List.replicate (n - (k + 1)) z := by
 subst hA
 have e : List.replicate (n - A.length) z = z :: List.replicate (n - (A.length + 1)) z := by
  rw [show n - A.length = (n - (A.length + 1)) + 1 by omega]; rfl
 unfold zcm
 rw [e]
 simp [zmu _ _ hz]
end Go.Proofs.YteeaofpphmhjdaaDoor
namespace Go.Proofs.YteeaofpphmhjdaaDoor
set_option linter.unusedSimpArgs false
set_option linter.unusedVariables false
set_option linter.unusedSectionVars false
set_option maxRecDepth 4000
open Go.RowKit
theorem zgh {α : Type} (c : α -> List T) : ∀ (xs : List PD), (∀ x ∈ xs, ∃ a, x.cells = c a) -> ∃ l : List α, PD.rows xs = l.map c
 | [], _ => ⟨[], rfl⟩
 | x :: xs, h => by
  obtain ⟨a, ha⟩ := h x (by simp)
  obtain ⟨l, hl⟩ := zgh c xs fun y hy => h y (by simp [hy])
  exact ⟨a :: l, by rw [PD.rows, ha, hl]; rfl⟩
end Go.Proofs.YteeaofpphmhjdaaDoor
namespace Go.Proofs.YteeaofpphmhjdaaDoor
set_option linter.unusedSimpArgs false
set_option linter.unusedVariables false
set_option linter.unusedSectionVars false
set_option maxRecDepth 4000
def ab (n : Int) : Int := max n (-n)
def znl : Int -> List Int -> Bool
 | _, [] => true
 | p, l :: ls => decide (p < ab l) && decide (ab l <= 12) && znl (ab l) ls
def pcl (c : List Int) : Bool := znl 0 c
abbrev Ris (c : List Int) : Prop := c.Pairwise fun a b => ab a < ab b
theorem zkd : ∀ (c : List Int) (p : Int), znl p c = true ↔ (∀ l ∈ c, p < ab l /\ ab l <= 12) /\ Ris c
 | [], p => by simp [znl, Ris]
 | l :: ls, p => by
  unfold znl
  rw [Bool.and_eq_true, Bool.and_eq_true, decide_eq_true_eq, decide_eq_true_eq, zkd ls (ab l)]
  simp only [List.mem_cons, forall_eq_or_imp, Ris, List.pairwise_cons]
  constructor
  ·rintro ⟨⟨h1, h2⟩, h3, h4⟩
   exact ⟨⟨⟨h1, h2⟩, fun x hx => ⟨by have := h3 x hx; omega, (h3 x hx).2⟩⟩, fun x hx => (h3 x hx).1, h4⟩
  ·rintro ⟨⟨⟨h1, h2⟩, h3⟩, h4, h5⟩
   exact ⟨⟨h1, h2⟩, fun x hx => ⟨h4 x hx, (h3 x hx).2⟩, h5⟩
theorem ztb (c : List Int) : pcl c = true ↔ (∀ l ∈ c, 0 < ab l /\ ab l <= 12) /\ Ris c := zkd c 0
theorem zuh {c : List Int} (h : pcl c = true) {l : Int} (hl : l ∈ c) : 0 < ab l /\ ab l <= 12 := ((ztb c).1 h).1 l hl
theorem zuj {l : Int} (h : 0 < ab l /\ ab l <= 12) : l ≠ 0 /\ -12 <= l /\ l <= 12 := by unfold ab at h; omega
theorem zpp : ∀ {c : List Int} {p : Int}, 0 <= p -> p <= 12 -> znl p c = true -> (c.length : Int) + p <= 12
 | [], p, h0, h1, _ => by simp; exact h1
 | l :: ls, p, h0, h1, h => by
  unfold znl at h
  simp only [Bool.and_eq_true, decide_eq_true_eq] at h
  have := zpp (c := ls) (p := ab l) (by omega) h.1.2 h.2
  rw [List.length_cons]
  omega
theorem zt0 {c : List Int} (h : pcl c = true) : c.length <= 12 := by have := zpp (p := 0) (by omega) (by omega) h; omega
def asg : Int -> Nat -> Nat -> List Int
 | _, 0, _ => []
 | v, n + 1, k => (if k / 2 ^ n % 2 = 1 then -v else v) :: asg (v + 1) n k
end Go.Proofs.YteeaofpphmhjdaaDoor
namespace Go.Proofs.YteeaofpphmhjdaaDoor
set_option linter.unusedSimpArgs false
set_option linter.unusedVariables false
set_option linter.unusedSectionVars false
set_option maxRecDepth 4000
structure Ps where
 l : Int
 r : Int
 p : Int
 c : List Int
def ps0 : Ps := ⟨0, 0, 0, []⟩
end Go.Proofs.YteeaofpphmhjdaaDoor
namespace Go.Proofs.YteeaofpphmhjdaaDoor
set_option linter.unusedSimpArgs false
set_option linter.unusedVariables false
set_option linter.unusedSectionVars false
set_option maxRecDepth 4000
def ndB1 (n : Nat) (s : Ps) (k : Nat) (out : List Bool) : List Bool := if out.getD (n + k) false = true then (out.set s.l.toNat true).set s.r.toNat true else out
def ndB (n : Nat) (st : List Ps) : Nat -> List Bool -> List Bool
 | 0, out => out
 | k + 1, out => ndB n st k (ndB1 n (st.getD k ps0) k out)
def nd0 (n m : Nat) : List Bool := (List.replicate (n + m) false).set (n + m - 1) true
def nd (n : Nat) (st : List Ps) : List Bool := ndB n st st.length (nd0 n st.length)
end Go.Proofs.YteeaofpphmhjdaaDoor
namespace Go.Proofs.YteeaofpphmhjdaaDoor
set_option linter.unusedSimpArgs false
set_option linter.unusedVariables false
set_option linter.unusedSectionVars false
set_option maxRecDepth 4000
open Go.RowKit
def inB (n lo hi : Int) : Bool := decide (lo <= n) && decide (n <= hi)
theorem zru (n lo hi : Int) : FC Tryd.prog 26 [iD n, iD lo, iD hi] [bD (inB n lo hi)] := by
 unfold inB
 refine zbh Tryd.call26 Tryd.func26 rfl (by kernel_rfl) (zcr (by kernel_rfl)) ?_
 simp -implicitDefEqProofs only [go_sem, Tryd.results26]
 refine ⟨fun h => ?_, fun h => ?_⟩ <;> simp at h ⊢ <;> omega
theorem l1In_c (n lo hi : Int) : FC Tryd.prog 22 [iD n, iD lo, iD hi] [bD (inB n lo hi)] := by
 unfold inB
 refine zbh Tryd.call22 Tryd.func22 rfl (by kernel_rfl) (zcr (by kernel_rfl)) ?_
 simp -implicitDefEqProofs only [go_sem, Tryd.results22]
 refine ⟨fun h => ?_, fun h => ?_⟩ <;> simp at h ⊢ <;> omega
end Go.Proofs.YteeaofpphmhjdaaDoor
namespace Go.Proofs.YteeaofpphmhjdaaDoor
set_option linter.unusedSimpArgs false
set_option linter.unusedVariables false
set_option linter.unusedSectionVars false
set_option maxRecDepth 4000
open Go.RowKit
theorem Tm.wt_args {a : Tm} {n : Nat} (h : a.wt <= n) : a.args.length <= n /\ ∀ x ∈ a.args, x.wt <= n := by
 have e := Tm.wt_eq a
 refine ⟨by omega, fun x hx => ?_⟩
 have := zo1 Tm.wt a.args x hx
 omega
theorem Fm.wt_parts {f : Fm} {n : Nat} (h : f.wt <= n) : f.atom.wt <= n /\ f.parts.length <= n /\ ∀ x ∈ f.parts, x.wt <= n := by
 have e := Fm.wt_eq f
 refine ⟨by omega, by omega, fun x hx => ?_⟩
 have := zo1 Fm.wt f.parts x hx
 omega
theorem zrf (a : Tm) (H : ∀ x ∈ a.args, FC Tryd.prog 41 [tmD x] [tmD x]) (hs : a.args.length <= 1048576) : FC Tryd.prog 41 [tmD a] [tmD a] := by
 simp only [tmD, zap a]
 refine zbh Tryd.call41 Tryd.func41 rfl (by kernel_rfl) (zcr (by kernel_rfl)) ?_
 simp -implicitDefEqProofs only [go_sem, Tryd.results41]
 refine zax (fun k : Nat => hd [(1, .one (.bx 1 0)), (2, .one (.bx 2 0)), (3, .one (.bx 3 0)), (4, vI k)] [(1, [.t (.str a.name), .t (tmS a.args)]), (2, [.t (.str []), .nl 2]), (3, [.t (.str a.name), .ow 3000 0])] [(3000, ⟨true, 2, (a.args.take k).map tmC, 0, true⟩)]) (fun k => k <= a.args.length) (fun k => a.args.length - k) 0 (zah ?_) ?_ ?_
 ·simp -implicitDefEqProofs only [go_sem]
 ·simp
 ·intro k hk
  by_cases hlt : k < a.args.length
  ·simp -implicitDefEqProofs only [go_sem, hlt]
   refine drawn (by kernel_rfl) ?_
   have hmin : min k a.args.length <= 4294967295 := by omega
   simp -implicitDefEqProofs only [go_sem, zaz, hlt, zap]
   refine zbz (H a.args[k] (List.getElem_mem hlt)) (by simp -implicitDefEqProofs only [go_sem, zap]) ?_
   simp -implicitDefEqProofs only [go_sem, zap]
   refine zhf (by simp -implicitDefEqProofs only [go_sem]) ?_
   simp -implicitDefEqProofs only [go_sem]
   refine dApD true (by simp -implicitDefEqProofs only [go_sem, ne_eq, List.length_map, List.length_take, hmin]) ?_
   simp -implicitDefEqProofs only [go_sem, ne_eq, List.length_map, List.length_take, hmin]
   refine ⟨by kernel_rfl, k + 1, hlt, by omega, zah ?_⟩
   simp -implicitDefEqProofs only [go_sem]
   rw [za4 (by omega), List.take_succ_eq_append_getElem hlt, List.map_append, List.map_singleton]
   simp only [zap]
   trivial
  ·have ht : a.args.take k = a.args := List.take_of_length_le (by omega)
   simp -implicitDefEqProofs only [go_sem, hlt, ht]
theorem zub : ∀ a : Tm, a.wt <= 1048576 -> FC Tryd.prog 41 [tmD a] [tmD a] :=
 zhw fun n xs ih hs => by
  obtain ⟨h1, h2⟩ := Tm.wt_args hs
  exact zrf (.mk n xs) (fun x hx => ih x hx (h2 x hx)) h1
set_option maxHeartbeats 1000000 in
theorem zqp (a : Fm) (H : ∀ x ∈ a.parts, FC Tryd.prog 35 [fmD x] [fmD x]) (h0 : a.atom.wt <= 1048576) (hs : a.parts.length <= 1048576) : FC Tryd.prog 35 [fmD a] [fmD a] := by
 simp only [fmD, zao a]
 refine zbh Tryd.call35 Tryd.func35 rfl (by kernel_rfl) (zcr (by kernel_rfl)) ?_
 simp -implicitDefEqProofs only [go_sem, Tryd.results35]
 refine drawn (by kernel_rfl) ?_
 simp -implicitDefEqProofs only [go_sem]
 refine zbz (zub a.atom h0) (by simp -implicitDefEqProofs only [go_sem, zap]) ?_
 simp -implicitDefEqProofs only [go_sem, zap]
 refine ⟨by kernel_rfl, ?_⟩
 refine zax (fun k : Nat => hd [(1, .one (.bx 1 0)), (2, .one (.bx 2 0)), (3, .one (.bx 3 0)), (4, vI k)] [(1, [.t (.int .i64 a.op), .t (.str a.atom.name), .t (tmS a.atom.args), .t (.str a.var), .t (fmS a.parts)]), (2, [.t (.int .i64 0), .t (.str []), .nl 2, .t (.str []), .nl 5]), (3, [.t (.int .i64 a.op), .t (.str a.atom.name), .ow 289 0, .t (.str a.var), .ow 3000 0])]
  [(289, ⟨true, 2, a.atom.args.map tmC, 0, true⟩), (3000, ⟨true, 5, (a.parts.take k).map fmC, 0, true⟩)]) (fun k => k <= a.parts.length) (fun k => a.parts.length - k) 0 (zah ?_) ?_ ?_
 ·simp -implicitDefEqProofs only [go_sem]
 ·simp
 ·intro k hk
  by_cases hlt : k < a.parts.length
  ·simp -implicitDefEqProofs only [go_sem, hlt]
   refine drawn (by kernel_rfl) ?_
   have hmin : min k a.parts.length <= 4294967295 := by omega
   simp -implicitDefEqProofs only [go_sem, zaz, hlt, zao]
   refine zbz (H a.parts[k] (List.getElem_mem hlt)) (by simp -implicitDefEqProofs only [go_sem, zao]) ?_
   simp -implicitDefEqProofs only [go_sem, zao]
   refine zhf (by simp -implicitDefEqProofs only [go_sem]) ?_
   simp -implicitDefEqProofs only [go_sem]
   refine dApD true (by simp -implicitDefEqProofs only [go_sem, ne_eq, List.length_map, List.length_take, hmin]) ?_
   simp -implicitDefEqProofs only [go_sem, ne_eq, List.length_map, List.length_take, hmin]
   refine ⟨by kernel_rfl, k + 1, hlt, by omega, zah ?_⟩
   simp -implicitDefEqProofs only [go_sem]
   rw [za4 (by omega), List.take_succ_eq_append_getElem hlt, List.map_append, List.map_singleton]
   simp only [zao]
   trivial
  ·have ht : a.parts.take k = a.parts := List.take_of_length_le (by omega)
   simp -implicitDefEqProofs only [go_sem, hlt, ht]
theorem zoa : ∀ a : Fm, a.wt <= 1048576 -> FC Tryd.prog 35 [fmD a] [fmD a] :=
 zim fun o t v ps ih hs => by
  obtain ⟨h1, h2, h3⟩ := Fm.wt_parts hs
  exact zqp (.mk o t v ps) (fun x hx => ih x hx (h3 x hx)) h1 h2
end Go.Proofs.YteeaofpphmhjdaaDoor
namespace Go.Proofs.YteeaofpphmhjdaaDoor
set_option linter.unusedSimpArgs false
set_option linter.unusedVariables false
set_option linter.unusedSectionVars false
set_option maxRecDepth 4000
open Go.RowKit
abbrev zev (xs : List Int) : T := .sl 1 (xs.map fun s => [.int .i64 s])
end Go.Proofs.YteeaofpphmhjdaaDoor
namespace Go.Proofs.YteeaofpphmhjdaaDoor
set_option linter.unusedSimpArgs false
set_option linter.unusedVariables false
set_option linter.unusedSectionVars false
set_option maxRecDepth 4000
open Go.RowKit
theorem zeb (n : Int) (h : -4611686018427387904 <= n /\ n <= 4611686018427387904) : FC Tryd.prog 27 [iD n] [iD (ab n)] := by
 refine zbh Tryd.call27 Tryd.func27 rfl (by kernel_rfl) (zcr (by kernel_rfl)) ?_
 simp -implicitDefEqProofs only [go_sem, Tryd.results27]
 rw [zbs (by omega) (by omega)]
 exact zsi (by unfold ab; omega)
theorem zrl (n : Int) (h : -4611686018427387904 <= n /\ n <= 4611686018427387904) : FC Tryd.prog 23 [iD n] [iD (ab n)] := by
 refine zbh Tryd.call23 Tryd.func23 rfl (by kernel_rfl) (zcr (by kernel_rfl)) ?_
 simp -implicitDefEqProofs only [go_sem, Tryd.results23]
 rw [zbs (by omega) (by omega)]
 refine ⟨fun h => ?_, fun h => ?_⟩ <;> simp at h <;> exact zsi (by unfold ab; omega)
def pv (c : List Int) (k : Nat) : Int := if k = 0 then 0 else ab (c.getD (k - 1) 0)
theorem zm9 (c : List Int) {k : Nat} (h : k < c.length) : pv c (k + 1) = ab c[k] := by
 unfold pv
 rw [if_neg (by omega), Nat.add_sub_cancel, List.getD_eq_getElem?_getD, List.getElem?_eq_getElem h]; rfl
theorem ab_in {l : Int} (h : -12 <= l /\ l <= 12) (h0 : l ≠ 0) : 0 < ab l /\ ab l <= 12 := by unfold ab; omega
theorem zfv (c : List Int) : FC Tryd.prog 14 [.one (zev c)] [bD (pcl c)] := by
 refine zk2 (fun hw => ?_) Tryd.call14
 have hl : c.length <= 9223372036854775807 := by have := hw.1.1; simpa using this
 refine zbh Tryd.call14 Tryd.func14 rfl (by kernel_rfl) (zcr (by kernel_rfl)) ?_
 simp -implicitDefEqProofs only [go_sem, Tryd.results14]
 refine zax (fun k : Nat => hd [(0, vT (zev c)), (5, vT (zev c)), (6, vI c.length), (7, vI k)] [] []) (fun k => k <= c.length /\ pcl c = znl (pv c k) (c.drop k) /\ (0 < k -> -12 <= c.getD (k - 1) 0 /\ c.getD (k - 1) 0 <= 12)) (fun k => c.length - k) 0 (zah ?_) ?_ ?_
 ·simp -implicitDefEqProofs only [go_sem]
 ·exact ⟨Nat.zero_le _, rfl, fun h => absurd h (by omega)⟩
 ·intro k ⟨hk, hr, hpr⟩
  by_cases hlt : k < c.length
  ·have hsu := zm9 c hlt
   have hgd : c.getD k 0 = c[k] := by rw [List.getD_eq_getElem?_getD, List.getElem?_eq_getElem hlt]; rfl
   rw [List.drop_eq_getElem_cons hlt] at hr
   unfold znl at hr
   have HW := zru c[k] (-12) 12
   cases h0 : (c[k] == (0 : Int))
   ·have h0' : c[k] ≠ 0 := by simpa using h0
    cases hwi : inB c[k] (-12) 12
    ·rw [hwi] at HW
     have hno : ¬ ab c[k] <= 12 := by
      unfold inB at hwi
      simp only [Bool.and_eq_false_iff, decide_eq_false_iff_not] at hwi
      unfold ab; omega
     simp -implicitDefEqProofs only [go_sem, zaz, hlt, h0]
     refine callF (HW) (by simp -implicitDefEqProofs only [go_sem]) ?_
     simp -implicitDefEqProofs only [go_sem]
     rw [hr, show decide (ab c[k] <= 12) = false by simpa using hno]; simp
    ·rw [hwi] at HW
     have hin : -12 <= c[k] /\ c[k] <= 12 := by
      unfold inB at hwi
      simpa using hwi
     have hab := ab_in hin h0'
     have HA := zeb c[k] (by omega)
     by_cases hk0 : k = 0
     ·have hkf : ((0 : Int) < (k : Int)) = False := by simp; omega
      simp -implicitDefEqProofs only [go_sem, zaz, hlt, h0]
      refine callF (HW) (by simp -implicitDefEqProofs only [go_sem, hkf]) ?_
      simp -implicitDefEqProofs only [go_sem, hkf]
      rw [za4 (by omega)]
      refine ⟨k + 1, ⟨hlt, ?_, fun _ => ?_⟩, by omega, zah (by simp -implicitDefEqProofs only [go_sem])⟩
      ·have hpv : pv c k = 0 := by unfold pv; rw [if_pos hk0]
       rw [hr, hsu, hpv, show decide (0 < ab c[k]) = true by simpa using hab.1, show decide (ab c[k] <= 12) = true by simpa using hab.2]; rfl
      ·rw [Nat.add_sub_cancel, hgd]; exact hin
     ·have hkp : (0 : Int) < k := by omega
      have hk1 : k - 1 < c.length := by omega
      have hw1 : IntKind.i64.wrap ((k : Int) - 1) = ((k - 1 : Nat) : Int) := by rw [zbs (by omega) (by omega)]; omega
      have hg1 : c.getD (k - 1) 0 = c[k - 1] := by rw [List.getD_eq_getElem?_getD, List.getElem?_eq_getElem hk1]; rfl
      have hp1 := hpr (by omega)
      rw [hg1] at hp1
      have HB := zeb c[k - 1] (by omega)
      have hpv : pv c k = ab c[k - 1] := by unfold pv; rw [if_neg hk0, hg1]
      rw [hpv] at hr
      simp -implicitDefEqProofs only [go_sem, zaz, hlt, h0]
      refine callF (HW) (by simp -implicitDefEqProofs only [go_sem, hkp, hw1, hk1, zaz]) ?_
      simp -implicitDefEqProofs only [go_sem, hkp, hw1, hk1, zaz]
      refine callF (HB) (by simp -implicitDefEqProofs only [go_sem]) ?_
      simp -implicitDefEqProofs only [go_sem]
      refine callF (HA) (by simp -implicitDefEqProofs only [go_sem]) ?_
      simp -implicitDefEqProofs only [go_sem]
      rw [za4 (by omega)]
      refine ⟨fun h => ?_, fun h => ⟨k + 1, ⟨hlt, ?_, fun _ => ?_⟩, by omega, zah (by simp -implicitDefEqProofs only [go_sem])⟩⟩
      ·have : ¬ ab c[k - 1] < ab c[k] := by simp at h; omega
       rw [hr, show decide (ab c[k - 1] < ab c[k]) = false by simpa using this]; simp
      ·have : ab c[k - 1] < ab c[k] := by simp at h; omega
       rw [hr, hsu, show decide (ab c[k - 1] < ab c[k]) = true by simpa using this, show decide (ab c[k] <= 12) = true by simpa using hab.2]; rfl
      ·rw [Nat.add_sub_cancel, hgd]; exact hin
   ·have h0' : c[k] = 0 := by simpa using h0
    have hpv : 0 <= pv c k := by unfold pv ab; split <;> omega
    simp -implicitDefEqProofs only [go_sem, zaz, hlt, h0]
    rw [hr, show decide (pv c k < ab c[k]) = false by rw [h0']; unfold ab; simpa using hpv]; simp
  ·simp -implicitDefEqProofs only [go_sem, hlt]
   rw [hr, List.drop_of_length_le (by omega)]; rfl
end Go.Proofs.YteeaofpphmhjdaaDoor
namespace Go.Proofs.YteeaofpphmhjdaaDoor
set_option linter.unusedSimpArgs false
set_option linter.unusedVariables false
set_option linter.unusedSectionVars false
set_option maxRecDepth 4000
open Go.RowKit
abbrev isD (l : List Int) : D := .one (zev l)
theorem ztd {d : PD} (h : zbj Tryd.prog 22 d) : ∃ l : List Int, d.cells = [zev l] := by
 obtain ⟨xs, rfl, hx⟩ := h.sl Tryd.underlying22
 obtain ⟨l, hl⟩ := zgh (fun s : Int => [T.int .i64 s]) xs fun x hx' => by
  obtain ⟨n, rfl⟩ := (hx x hx').int Tryd.underlying3
  exact ⟨n, by rw [PD.cells]⟩
 exact ⟨l, by rw [PD.cells, hl, show Tryd.prog.cellsOf 3 = 1 from by kernel_rfl]⟩
end Go.Proofs.YteeaofpphmhjdaaDoor
namespace Go.Proofs
open Go.Shelf
set_option maxRecDepth 100000
def Tryd.lays171_ren : Go.Shelf.Ren := ⟨fun | 171 => 37 | 243 => 42 | 246 => 44 | 283 => 45 | 284 => 46 | 285 => 47 | 286 => 48 | 129 => 50 | 317 => 49 | 318 => 51 | 319 => 52 | 320 => 53 | 337 => 54 | 338 => 55 | n => n, fun | 3 => 3 | 9 => 9 | 2 => 2 | 4 => 4 | 171 => 60 | 0 => 0 | 53 => 61 | 37 => 56 | 5 => 5 | 173 => 64 | 212 => 67 | 51 => 68 | 20 => 20 | 213 => 69 | 46 => 71 | 232 => 74 | 233 => 75 | n => n, fun | 17 => 0 | 18 => 1 | 19 => 2 | n => n⟩
theorem Tryd.lays171 : Go.Proofs.Lays.n171 Tryd.prog Tryd.lays171_ren := {
 mixed := by kernel_rfl
 f129 := Tryd.func50.trans (congrArg some (by kernel_rfl))
 f171 := Tryd.func37.trans (congrArg some (by kernel_rfl))
 f243 := Tryd.func42.trans (congrArg some (by kernel_rfl))
 f246 := Tryd.func44.trans (congrArg some (by kernel_rfl))
 f283 := Tryd.func45.trans (congrArg some (by kernel_rfl))
 f284 := Tryd.func46.trans (congrArg some (by kernel_rfl))
 f285 := Tryd.func47.trans (congrArg some (by kernel_rfl))
 f286 := Tryd.func48.trans (congrArg some (by kernel_rfl))
 f317 := Tryd.func49.trans (congrArg some (by kernel_rfl))
 f318 := Tryd.func51.trans (congrArg some (by kernel_rfl))
 f319 := Tryd.func52.trans (congrArg some (by kernel_rfl))
 f320 := Tryd.func53.trans (congrArg some (by kernel_rfl))
 f337 := Tryd.func54.trans (congrArg some (by kernel_rfl))
 f338 := Tryd.func55.trans (congrArg some (by kernel_rfl))
 t0 := Tryd.underlying0
 a0 := Tryd.isAgg0
 z0 := Tryd.sizeOf0
 v0 := Tryd.zeroValue0
 t2 := Tryd.underlying2
 a2 := Tryd.isAgg2
 z2 := Tryd.sizeOf2
 v2 := Tryd.zeroValue2
 t3 := Tryd.underlying3
 a3 := Tryd.isAgg3
 z3 := Tryd.sizeOf3
 v3 := Tryd.zeroValue3
 t4 := Tryd.underlying4
 a4 := Tryd.isAgg4
 z4 := Tryd.sizeOf4
 v4 := Tryd.zeroValue4
 t5 := Tryd.underlying5
 a5 := Tryd.isAgg5
 z5 := Tryd.sizeOf5
 v5 := Tryd.zeroValue5
 t9 := Tryd.underlying9
 a9 := Tryd.isAgg9
 z9 := Tryd.sizeOf9
 v9 := Tryd.zeroValue9
 t20 := Tryd.underlying20
 a20 := Tryd.isAgg20
 z20 := Tryd.sizeOf20
 v20 := Tryd.zeroValue20
 t37 := Tryd.underlying56
 a37 := Tryd.isAgg56
 z37 := Tryd.sizeOf56
 v37 := Tryd.zeroValue56
 t46 := Tryd.underlying71
 a46 := Tryd.isAgg71
 z46 := Tryd.sizeOf71
 v46 := Tryd.zeroValue71
 t51 := Tryd.underlying68
 a51 := Tryd.isAgg68
 z51 := Tryd.sizeOf68
 v51 := Tryd.zeroValue68
 t53 := Tryd.underlying61
 a53 := Tryd.isAgg61
 z53 := Tryd.sizeOf61
 v53 := Tryd.zeroValue61
 t171 := Tryd.underlying60
 a171 := Tryd.isAgg60
 z171 := Tryd.sizeOf60
 v171 := Tryd.zeroValue60
 t173 := Tryd.underlying64
 a173 := Tryd.isAgg64
 z173 := Tryd.sizeOf64
 v173 := Tryd.zeroValue64
 t212 := Tryd.underlying67
 a212 := Tryd.isAgg67
 z212 := Tryd.sizeOf67
 v212 := Tryd.zeroValue67
 t213 := Tryd.underlying69
 a213 := Tryd.isAgg69
 z213 := Tryd.sizeOf69
 t232 := Tryd.underlying74
 a232 := Tryd.isAgg74
 z232 := Tryd.sizeOf74
 v232 := Tryd.zeroValue74
 t233 := Tryd.underlying75
 a233 := Tryd.isAgg75
 z233 := Tryd.sizeOf75
 v233 := Tryd.zeroValue75
 g17 := by kernel_rfl
 g18 := by kernel_rfl
 g19 := by kernel_rfl }
end Go.Proofs
namespace Go.Proofs.YteeaofpphmhjdaaDoor
set_option linter.unusedSimpArgs false
set_option linter.unusedVariables false
set_option linter.unusedSectionVars false
set_option maxRecDepth 4000
open Go.RowKit
def mkF (op : Int) (ps : List Fm) : Fm := .mk op (.mk [] []) [] ps
theorem zb8 (op : Int) (ps : List Fm) : fmC (mkF op ps) = [.int .i64 op, .str [], .sl 2 [], .str [], .sl 5 (ps.map fmC)] := zao _
theorem not_c (a : Fm) : GC Tryd.prog 38 [(true, fmD a)] [fmD (mkF 4 [a])] := by
 simp only [fmD, zao a, zb8]
 refine zta Tryd.call38 Tryd.func38 rfl (by kernel_rfl) (by simp only [List.length_cons, List.length_nil, Tryd.ntmps38]; omega) (by simp [zb7, T.isPin]) ?_
 simp -implicitDefEqProofs only [go_sem, Tryd.results38]
 refine zcq (by simp -implicitDefEqProofs only [go_sem]) ?_
 simp -implicitDefEqProofs only [go_sem]
 simp [zao]
end Go.Proofs.YteeaofpphmhjdaaDoor
namespace Go.Proofs.YteeaofpphmhjdaaDoor
set_option linter.unusedSimpArgs false
set_option linter.unusedVariables false
set_option linter.unusedSectionVars false
set_option maxRecDepth 4000
open Go.RowKit
attribute [local go_sem] Oper.semAt_some
set_option maxHeartbeats 1000000 in
theorem zfy : znd Tryd.prog 39 43 := by
 refine ⟨Tryd.call39, fun a len cap w => ?_⟩
 refine callsIn_wide.1 (callsIn_of_wp (n := 0) Tryd.func39 rfl trivial ?_ rfl)
 simp only [Tryd.ntmps39, List.size_toArray, List.length_cons, List.length_nil, Nat.reduceAdd, Nat.reduceSub, Array.replicate_succ, Array.replicate_zero, List.push_toArray, List.append_toArray, List.nil_append, List.cons_append]
 gi_wp2
 go_ret
 exact ⟨_, rfl, rfl⟩
set_option maxRecDepth 100000 in
set_option maxHeartbeats 2000000 in
theorem zg9 : zkf Tryd.prog 43 true 5 := by
 intro l Bs n W J hmax hlen0 hrd h0
 obtain ⟨ao, cap, hBs⟩ := hlen0 W h0
 have hmax : n <= 9223372036854775807 := hmax
 have hw1 : IntKind.i64.wrap ((n : Int) - 1) = (n : Int) - 1 := by rw [IntKind.wrap_i64]; omega
 have hro : (FR none).round = none := rfl
 refine callsIn_of_wp Tryd.func43 rfl trivial ?_ rfl
 simp only [Tryd.ntmps43, List.size_toArray, List.length_cons, List.length_nil, Nat.reduceAdd, Nat.reduceSub, Array.replicate_succ, Array.replicate_zero, List.push_toArray, List.append_toArray, List.nil_append, List.cons_append]
 gi_wp2
 gi_loopw [3] (fun i wr => ∃ k : Nat, k <= n /\ i = .int .i64 ((n : Int) - 1 - k) /\ J k wr) (fun i _ => (intOf i + 1).toNat)
 case atStart => exact ⟨0, Nat.zero_le _, by simp, h0⟩
 case round =>
  obtain ⟨k, hk, rfl, hJs⟩ := hrel
  by_cases hlt : k < n
  ·obtain ⟨m, hm⟩ : ∃ m, n - 1 - k = m := ⟨_, rfl⟩
   have hml : m < n := by omega
   obtain ⟨b, o, cap', r, hb, hr, hcell, fn, tmps, assign, body, hy, hR⟩ := hrd k wr hJs hlt
   match r, hr, hcell, hy with
   | [v0, v1, v2, v3, v4], _, hcell, hy =>
    rw [hm] at hcell hy
    rw [show (n : Int) - 1 - k = (m : Int) by omega]
    have e1 : wr.cell? ⟨b, o + m * 5, none⟩ = _ := hcell 0 v0 rfl
    have e2 : wr.cell? ⟨b, o + m * 5 + 1, none⟩ = _ := hcell 1 v1 rfl
    have e3 : wr.cell? ⟨b, o + m * 5 + 2, none⟩ = _ := hcell 2 v2 rfl
    have e4 : wr.cell? ⟨b, o + m * 5 + 3, none⟩ = _ := hcell 3 v3 rfl
    have e5 : wr.cell? ⟨b, o + m * 5 + 4, none⟩ = _ := hcell 4 v4 rfl
    simp only [agv, if_true] at hy
    have hw2 : IntKind.i64.wrap ((m : Int) - 1) = (m : Int) - 1 := by rw [IntKind.wrap_i64]; omega
    gi_wp2
    refine hR.mono ?_
    rintro e W3 ⟨rfl, hJ3⟩
    gi_wp2
    go_roundw
    case rel => exact ⟨k + 1, by omega, by go_num, hJ3⟩
    case measure => simp [intOf]
  ·obtain rfl : k = n := by omega
   gi_wp2
   go_end0
   exact ⟨⟨_, rfl⟩, hJs⟩
end Go.Proofs.YteeaofpphmhjdaaDoor
