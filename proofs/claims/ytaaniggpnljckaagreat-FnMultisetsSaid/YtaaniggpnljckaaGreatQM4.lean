/-
  The walk over plain data, and contracts of functions of the program and of its laws.
  Conditions: those that each theorem names.
-/
import Derived.Test.YtaaniggpnljckaaGreatQM3
import Derived.RangeFuncNested
import Derived.RangeFuncLeaves
import Derived.Test.YtaaniggpnljckaaGreatProg
import Derived.KernelRfl
import Derived.Test.YtaaniggpnljckaaGreatQM1
namespace Go.Proofs.YtaaniggpnljckaaGreat
set_option linter.unusedSimpArgs false
set_option linter.unusedVariables false
set_option linter.unusedSectionVars false
set_option maxRecDepth 4000
open Go.RowKit
variable {P : Program}
def pinC (v : Value) : T -> T
 | .sl sz rows => .pin v (.sl sz rows)
 | t => t
def zzm (us : Nat -> Value) : Nat -> List T -> List T
 | _, [] => []
 | j, c :: cs => pinC (us j) c :: zzm us (j + 1) cs
def zfr (vs : Nat -> Nat -> Value) : Nat -> List (List T) -> List (List T)
 | _, [] => []
 | i, r :: rs => zzm (vs i) 0 r :: zfr vs (i + 1) rs
theorem zqz (us : Nat -> Value) : ∀ (cs : List T) (j : Nat), (zzm us j cs).length = cs.length
 | [], _ => rfl
 | c :: cs, j => by simp [zzm, zqz us cs]
theorem zf3 (vs : Nat -> Nat -> Value) : ∀ (rs : List (List T)) (i : Nat), (zfr vs i rs).length = rs.length
 | [], _ => rfl
 | c :: cs, j => by simp [zfr, zf3 vs cs]
theorem zao.pin {w : World} {t : T} {v : Value} {fp : List Nat} (h : zao w t v fp) : zao w (pinC v t) v fp := by
 unfold pinC
 split
 ·unfold zao; exact ⟨rfl, h⟩
 ·exact h
theorem za4.pin {w : World} {cells : Array Value} {us : Nat -> Value} : ∀ {cs : List T} {o j : Nat} {fps : List Nat}, za4 w cells o cs fps -> (∀ i, us (j + i) = cells.getD (o + i) undef) -> za4 w cells o (zzm us j cs) fps
 | [], _, _, _, h, _ => h
 | c :: cs, o, j, fps, h, hu => by
  unfold za4 at h
  obtain ⟨v, f1, f2, h1, rfl, h2, h3⟩ := h
  unfold zzm za4
  have e : us j = v := by have := hu 0; rw [Nat.add_zero, Nat.add_zero] at this; rw [this, Array.getD_eq_getD_getElem?, h1]; rfl
  refine ⟨v, f1, f2, h1, rfl, by rw [e]; exact h2.pin, za4.pin h3 fun i => ?_⟩
  have := hu (i + 1)
  rwa [show j + (i + 1) = j + 1 + i by omega, show o + (i + 1) = o + 1 + i by omega] at this
theorem zag.pin {w : World} {cells : Array Value} {sz : Nat} : ∀ {rows : List (List T)} {i : Nat} {fps : List Nat}, zag w cells (i * sz) sz rows fps -> zag w cells (i * sz) sz (zfr (fun i j => cells.getD (i * sz + j) undef) i rows) fps
 | [], _, _, h => h
 | r :: rs, i, fps, h => by
  unfold zag at h
  obtain ⟨h1, f1, f2, rfl, h2, h3⟩ := h
  unfold zfr zag
  refine ⟨by rw [zqz]; exact h1, f1, f2, rfl, h2.pin fun j => by simp, ?_⟩
  rw [show i * sz + sz = (i + 1) * sz by rw [Nat.add_mul]; omega] at h3 ⊢
  exact zag.pin h3
theorem zao.pins {w : World} {sz : Nat} {rows : List (List T)} {v : Value} {fp : List Nat} (h : zao w (.sl sz rows) v fp) : ∃ vs, zao w (.sl sz (zfr vs 0 rows)) v fp := by
 unfold zao at h
 obtain ⟨ao, cap, h1, h2, h3, h4⟩ := h
 rcases h4 with ⟨k1, k2, rfl, k4⟩ | ⟨b, cells, ty, fps, k1, k2, k3, k4, k5⟩
 ·refine ⟨fun _ _ => undef, ?_⟩
  unfold zao
  exact ⟨ao, cap, h1, h2, h3, Or.inl ⟨k1, k2, rfl, k4⟩⟩
 ·refine ⟨fun i j => cells.getD (i * sz + j) undef, ?_⟩
  unfold zao
  have := zag.pin (i := 0) (by rw [Nat.zero_mul]; exact k5)
  rw [Nat.zero_mul] at this
  exact ⟨ao, cap, by rw [zf3]; exact h1, by rw [zf3]; exact h2, h3, Or.inr ⟨b, cells, ty, fps, k1, k2, k3, k4, this⟩⟩
def zho : T -> T
 | .pin _ t => t
 | t => t
def ze9 (rs : List (List T)) : List (List T) := rs.map fun r => r.map zho
theorem zao.unpin {w : World} : ∀ {t : T} {v : Value} {fp : List Nat}, zao w t v fp -> zao w (zho t) v fp
 | .pin _ _, _, _, h => by unfold zao at h; exact h.2
 | .int _ _, _, _, h => h
 | .bool _, _, _, h => h
 | .str _, _, _, h => h
 | .sl _ _, _, _, h => h
 | .ptr _, _, _, h => h
 | .fn _ _, _, _, h => h
 | .mp _ _, _, _, h => h
 | .vs _ _ _, _, _, h => h
theorem za4.unpin {w : World} {cells : Array Value} : ∀ {cs : List T} {o : Nat} {fps : List Nat}, za4 w cells o cs fps -> za4 w cells o (cs.map zho) fps
 | [], _, _, h => h
 | c :: cs, o, fps, h => by
  unfold za4 at h
  obtain ⟨v, f1, f2, h1, rfl, h2, h3⟩ := h
  rw [List.map_cons]
  unfold za4
  exact ⟨v, f1, f2, h1, rfl, h2.unpin, h3.unpin⟩
theorem zag.unpin {w : World} {cells : Array Value} {sz : Nat} : ∀ {rows : List (List T)} {o : Nat} {fps : List Nat}, zag w cells o sz rows fps -> zag w cells o sz (ze9 rows) fps
 | [], _, _, h => h
 | r :: rs, o, fps, h => by
  unfold zag at h
  obtain ⟨h1, f1, f2, rfl, h2, h3⟩ := h
  show zag w cells o sz (r.map zho :: ze9 rs) (f1 ++ f2)
  unfold zag
  exact ⟨by simpa using h1, f1, f2, rfl, h2.unpin, h3.unpin⟩
theorem zao.unpins {w : World} {sz : Nat} {rows : List (List T)} {v : Value} {fp : List Nat} (h : zao w (.sl sz rows) v fp) : zao w (.sl sz (ze9 rows)) v fp := by
 unfold zao at h ⊢
 have hl : (ze9 rows).length = rows.length := by simp [ze9]
 obtain ⟨ao, cap, h1, h2, h3, h4⟩ := h
 refine ⟨ao, cap, by rw [hl]; exact h1, by rw [hl]; exact h2, h3, ?_⟩
 rcases h4 with ⟨k1, k2, rfl, k4⟩ | ⟨b, cells, ty, fps, k1, k2, k3, k4, k5⟩
 ·exact Or.inl ⟨k1, k2, rfl, k4⟩
 ·exact Or.inr ⟨b, cells, ty, fps, k1, k2, k3, k4, k5.unpin⟩
theorem Rel.reown {n0 : Nat -> Prop} {N : Nat} {σ : St} {g : Gh} {a : Act} {w : World} (hR : Rel n0 N σ g a w) (hn : LtK n0 w) {e sz gn : Nat} {rows rows' : List (List T)} (he : σ.ev e = some ⟨true, sz, rows, gn, true⟩) (h : zao w (.sl sz rows') (g.ψ e gn) (g.φ e)) :
  Rel n0 N (σ.inp [(e, rows')]) g a w := by
 have hOn : σ.On e := ⟨_, he, rfl⟩
 have hev : ∀ e', (∀ p ∈ [(e, rows')], p.1 ≠ e') -> (σ.inp [(e, rows')]).ev e' = σ.ev e' := fun e' h' => zfe (by simpa using Ne.symm (h' (e, rows') (List.mem_singleton.2 rfl)))
 have m : Mv σ (σ.inp [(e, rows')]) g g w w := by
  refine ⟨fun b hf => rfl, fun b hf => ⟨hf.1, fun e' x hx hon => ?_, hf.2.2⟩, fun b hb => ⟨rfl, hb⟩, fun e n he => ⟨zlc he, rfl⟩, fun b hb => (zqn hR (U := [(e, rows')]) (fp := g.φ e) (φ' := g.φ) (fun b hb => ⟨(e, rows'), List.mem_singleton.2 rfl, hb⟩) (fun p hp => by rw [List.mem_singleton.1 hp]; exact hOn) (Bk.refl _ _) (fun p hp b hb => Or.inl (by rw [List.mem_singleton.1 hp] at hb; exact hb)) (fun _ _ => rfl) b hb).2.2⟩
  by_cases h' : e' = e
  ·subst h'; exact hf.2.1 e' _ he rfl
  ·exact hf.2.1 e' x ((hev e' (by simpa using Ne.symm h')).symm.trans hx) hon
 exact hR.inp hn (fp := g.φ e) (fp' := g.φ e) (φ' := g.φ) (by simp) (by simp) (fun b hb => ⟨(e, rows'), List.mem_singleton.2 rfl, hb⟩) (Bk.refl _ _) (fun b hb => Or.inl hb) (fun _ _ => rfl)
  (fun p hp => by simp at hp; subst hp; exact ⟨sz, rows, gn, he, h, hR.nodup e hOn, fun b hb => hb⟩) (fun p hp q hq hne => by simp at hp hq; subst hp; subst hq; exact absurd rfl hne)
  (fun i v h => m.vr h) (fun b cs vs _ h => m.crs h) (fun e x _ _ _ v fpx hE hs => m.evr hE hs) (fun e x _ _ v h => m.rep h)
theorem za4.cell {w : World} {cells : Array Value} : ∀ {cs : List T} {o j : Nat} {c : T} {fps : List Nat}, za4 w cells o cs fps -> cs[j]? = some c →
  ∃ f1 f f2 v, fps = f1 ++ (f ++ f2) /\ cells[o + j]? = some v /\ zao w c v f /\ ∀ (w' : World) (c' : T) (f' : List Nat), (∀ b, b ∈ f1 \/ b ∈ f2 -> w'.heap[b]? = w.heap[b]?) -> zao w' c' v f' -> za4 w' cells o (cs.set j c') (f1 ++ (f' ++ f2))
 | [], _, _, _, _, _, h => by simp at h
 | d :: cs, o, 0, c, fps, h, hc => by
  unfold za4 at h
  obtain ⟨v, f1, f2, h1, rfl, h2, h3⟩ := h
  simp only [List.getElem?_cons_zero, Option.some.injEq] at hc
  subst hc
  refine ⟨[], f1, f2, v, rfl, h1, h2, fun w' c' f' hk ho => ?_⟩
  show za4 w' cells o (c' :: cs) (f' ++ f2)
  unfold za4
  exact ⟨v, f', f2, h1, rfl, ho, za4.keep cells _ cs f2 h3 fun b hb => hk b (Or.inr hb)⟩
 | d :: cs, o, j + 1, c, fps, h, hc => by
  unfold za4 at h
  obtain ⟨v, f1, f2, h1, rfl, h2, h3⟩ := h
  obtain ⟨g1, g, g2, u, rfl, k1, k2, k3⟩ := za4.cell h3 (by simpa using hc)
  refine ⟨f1 ++ g1, g, g2, u, by simp, by rw [<- k1]; congr 1; omega, k2, fun w' c' f' hk ho => ?_⟩
  show za4 w' cells o (d :: cs.set j c') _
  unfold za4
  exact ⟨v, f1, g1 ++ (f' ++ g2), h1, by simp, zao.keep d v f1 h2 fun b hb => hk b (Or.inl (by simp [hb])), k3 w' c' f' (fun b hb => hk b (by rcases hb with hb | hb <;> simp [hb])) ho⟩
theorem zag.cell {w : World} {cells : Array Value} {sz : Nat} : ∀ {rows : List (List T)} {o i j : Nat} {r : List T} {c : T} {fps : List Nat}, zag w cells o sz rows fps -> rows[i]? = some r -> r[j]? = some c →
  ∃ f1 f f2 v, fps = f1 ++ (f ++ f2) /\ cells[o + i * sz + j]? = some v /\ zao w c v f /\ ∀ (w' : World) (c' : T) (f' : List Nat), (∀ b, b ∈ f1 \/ b ∈ f2 -> w'.heap[b]? = w.heap[b]?) -> zao w' c' v f' -> zag w' cells o sz (rows.set i (r.set j c')) (f1 ++ (f' ++ f2))
 | [], _, _, _, _, _, _, _, h, _ => by simp at h
 | d :: rows, o, 0, j, r, c, fps, h, hr, hc => by
  unfold zag at h
  obtain ⟨h1, f1, f2, rfl, h2, h3⟩ := h
  simp only [List.getElem?_cons_zero, Option.some.injEq] at hr
  subst hr
  obtain ⟨g1, g, g2, u, rfl, k1, k2, k3⟩ := za4.cell h2 hc
  refine ⟨g1, g, g2 ++ f2, u, by simp, by simpa using k1, k2, fun w' c' f' hk ho => ?_⟩
  show zag w' cells o sz (d.set j c' :: rows) _
  unfold zag
  exact ⟨by simp [h1], g1 ++ (f' ++ g2), f2, by simp, k3 w' c' f' (fun b hb => hk b (by rcases hb with hb | hb <;> simp [hb])) ho, zag.keep cells _ sz rows f2 h3 fun b hb => hk b (by simp [hb])⟩
 | d :: rows, o, i + 1, j, r, c, fps, h, hr, hc => by
  unfold zag at h
  obtain ⟨h1, f1, f2, rfl, h2, h3⟩ := h
  obtain ⟨g1, g, g2, u, rfl, k1, k2, k3⟩ := zag.cell h3 (by simpa using hr) hc
  refine ⟨f1 ++ g1, g, g2, u, by simp, by rw [<- k1]; congr 1; rw [Nat.add_mul]; omega, k2, fun w' c' f' hk ho => ?_⟩
  show zag w' cells o sz (d :: rows.set i (r.set j c')) _
  unfold zag
  exact ⟨h1, f1, g1 ++ (f' ++ g2), by simp, za4.keep cells o d f1 h2 fun b hb => hk b (Or.inl (by simp [hb])), k3 w' c' f' (fun b hb => hk b (by rcases hb with hb | hb <;> simp [hb])) ho⟩
def onN (x : Option Ev) (i j : Nat) (v : Value) (t : T) : Prop := zam x fun y => y.on = true /\ y.deep = true /\ y.rows[i]?.isSome = true /\ (y.rows.getD i [])[j]? = some (.pin v t)
attribute [go_sem] onN
end Go.Proofs.YtaaniggpnljckaaGreat
namespace Go.Proofs.YtaaniggpnljckaaGreat
set_option linter.unusedSimpArgs false
set_option linter.unusedVariables false
set_option linter.unusedSectionVars false
set_option maxRecDepth 4000
open Go.RowKit
variable {P : Program}
abbrev Sr := Nat × Option (Nat × Nat)
def okQ : Option (Nat × Nat) -> Option (Nat × Nat) -> Bool
 | some a, some b => !(a.1 == b.1 && a.2 == b.2)
 | _, _ => false
def okS : List Sr -> Sr -> Bool
 | [], _ => true
 | (e, p) :: u, (e', p') => (if e = e' then okQ p p' else true) && okS u (e', p')
def owU (x : Option Ev) (sz : Nat) (rows : List (List T)) (g : Nat) : Prop := zam x fun y => y.deep = true /\ y.sz = sz /\ (y.rows = rows \/ ze9 y.rows = rows) /\ y.gen = g /\ y.on = true
def gvT (σ : St) (K : List Sr -> List (Nat × Nat × Nat) -> Prop) (u : List Sr) (ps : List (Nat × Nat × Nat)) (x t : T) : Prop := match x, ps with
 | .pin v y, (e, i, j) :: ps => y = t /\ okS u (e, some (i, j)) = true /\ onN (σ.ev e) i j v t /\ K ((e, some (i, j)) :: u) ps
 | x, ps => x = t /\ t.flat = true /\ K u ps
theorem qcj {σ : St} {K K' : List Sr -> List (Nat × Nat × Nat) -> Prop} (hK : ∀ u ps, K u ps -> K' u ps) {u : List Sr} {ps : List (Nat × Nat × Nat)} {x t : T} (h : gvT σ K u ps x t) : gvT σ K' u ps x t := by
 unfold gvT at h ⊢
 split at h
 ·exact ⟨h.1, h.2.1, h.2.2.1, hK _ _ h.2.2.2⟩
 ·exact ⟨h.1, h.2.1, hK _ _ h.2.2⟩
def gvK (σ : St) (K : List Sr -> List (Nat × Nat × Nat) -> Prop) : List Sr -> List (Nat × Nat × Nat) -> List C -> List T -> Prop
 | u, ps, [], [] => K u ps
 | u, ps, .t x :: cs, t :: ts => gvT σ (fun u ps => gvK σ K u ps cs ts) u ps x t
 | u, ps, .nl _ :: cs, .sl _ rows :: ts => rows = [] /\ gvK σ K u ps cs ts
 | u, ps, .ow e g :: cs, .sl sz rows :: ts => okS u (e, none) = true /\ owU (σ.ev e) sz rows g /\ gvK σ K ((e, none) :: u) ps cs ts
 | u, (e, i, j) :: ps, .cv v :: cs, t :: ts => okS u (e, some (i, j)) = true /\ onN (σ.ev e) i j v t /\ gvK σ K ((e, some (i, j)) :: u) ps cs ts
 | _, _, _, _ => False
def rdC : C -> T -> Prop
 | .t x, y => x = y /\ T.nm y = true
 | .fn f [], .fn g [] => f = g
 | .rn x, y => x = y
 | .er cs o, .ptr cs' => o = 0 /\ cs = cs'
 | .nl _, .sl _ rows => rows = []
 | _, _ => False
def rdCs : List C -> List T -> Prop
 | [], [] => True
 | c :: cs, t :: ts => rdC c t /\ rdCs cs ts
 | _, _ => False
def rdV : V -> D -> Prop
 | .one c, .one t => rdC c t
 | .agg cs, .agg ts => rdCs cs ts
 | _, _ => False
def gvA (σ : St) (K : List Sr -> Prop) : List Sr -> List (Nat × Nat × Nat) -> List V -> List (Bool × D) -> Prop
 | u, _, [], [] => K u
 | u, ps, v :: vs, (false, d) :: ds => rdV v d /\ gvA σ K u ps vs ds
 | u, ps, .one c :: vs, (true, .one t) :: ds => gvK σ (fun u ps => gvA σ K u ps vs ds) u ps [c] [t]
 | u, ps, .agg cs :: vs, (true, .agg ts) :: ds => gvK σ (fun u ps => gvA σ K u ps vs ds) u ps cs ts
 | _, _, _, _ => False
theorem zen {σ : St} {K K' : List Sr -> List (Nat × Nat × Nat) -> Prop} (hK : ∀ u ps, K u ps -> K' u ps) : ∀ {cs : List C} {ts : List T} {u : List Sr} {ps : List (Nat × Nat × Nat)}, gvK σ K u ps cs ts -> gvK σ K' u ps cs ts
 | [], [], _, _, h => hK _ _ h
 | [], _ :: _, _, _, h => by cases h
 | c :: cs, [], u, ps, h => by cases c <;> first | exact (show False from h).elim | (cases ps <;> exact (show False from h).elim)
 | c :: cs, t :: ts, u, ps, h => by
  unfold gvK at h ⊢
  split at h
  ·rename_i e1 e2; cases e1
  ·rename_i e1 e2; cases e1; cases e2; exact qcj (fun u ps h => zen hK h) h
  ·rename_i e1 e2; cases e1; cases e2; exact ⟨h.1, zen hK h.2⟩
  ·rename_i e1 e2; cases e1; cases e2; exact ⟨h.1, h.2.1, zen hK h.2.2⟩
  ·rename_i e1 e2; cases e1; cases e2; exact ⟨h.1, h.2.1, zen hK h.2.2⟩
  ·exact h.elim
theorem zeu {σ : St} {K K' : List Sr -> Prop} (hK : ∀ u, K u -> K' u) : ∀ {xs : List V} {ds : List (Bool × D)} {u : List Sr} {ps : List (Nat × Nat × Nat)}, gvA σ K u ps xs ds -> gvA σ K' u ps xs ds
 | [], [], _, _, h => hK _ h
 | [], _ :: _, _, _, h => h.elim
 | x :: xs, [], _, _, h => by cases x <;> exact h.elim
 | x :: xs, (false, d) :: ds, _, _, h => by unfold gvA at h ⊢; exact ⟨h.1, zeu hK h.2⟩
 | .one c :: xs, (true, .one t) :: ds, _, _, h => by unfold gvA at h ⊢; exact zen (fun u ps hu => zeu hK hu) h
 | .agg cs :: xs, (true, .agg ts) :: ds, _, _, h => by unfold gvA at h ⊢; exact zen (fun u ps hu => zeu hK hu) h
 | .one _ :: _, (true, .agg _) :: _, _, _, h => h.elim
 | .agg _ :: _, (true, .one _) :: _, _, _, h => h.elim
 | .tup _ :: _, (true, d) :: _, _, _, h => by cases d <;> exact h.elim
theorem zav.fam {w : World} : ∀ {cs : List T} {vs : List Value} {fps : List Nat}, zav w cs vs fps -> ∃ F : Nat -> List Nat, (∀ k c, cs[k]? = some c -> ∃ v, vs[k]? = some v /\ zao w c v (F k)) /\ (∀ k b, b ∈ F k -> b ∈ fps) /\ (fps.Nodup -> (∀ k, (F k).Nodup) /\ ∀ k k', k ≠ k' -> ∀ b ∈ F k, b ∉ F k')
 | [], vs, fps, h => ⟨fun _ => [], fun k c hc => by simp at hc, by simp, fun _ => ⟨by simp, by simp⟩⟩
 | c :: cs, _, _, h => by
  obtain ⟨v, vs', f1, f2, rfl, rfl, h1, h2⟩ := h
  obtain ⟨F, k1, k2, k3⟩ := zav.fam h2
  refine ⟨fun k => match k with | 0 => f1 | k + 1 => F k, fun k c' hc => ?_, fun k b hb => ?_, fun hn => ?_⟩
  ·cases k with
   | zero => simp only [List.getElem?_cons_zero, Option.some.injEq] at hc; subst hc; exact ⟨v, rfl, h1⟩
   | succ k => exact k1 k c' (by simpa using hc)
  ·cases k with
   | zero => exact List.mem_append_left _ hb
   | succ k => exact List.mem_append_right _ (k2 k b hb)
  ·obtain ⟨n1, n2, n3⟩ := List.nodup_append.1 hn
   obtain ⟨m1, m2⟩ := k3 n2
   refine ⟨fun k => ?_, fun k k' hne b hb hb' => ?_⟩
   ·cases k with
    | zero => exact n1
    | succ k => exact m1 k
   ·cases k with
    | zero =>
     cases k' with
     | zero => exact hne rfl
     | succ k' => exact n3 b hb b (k2 k' b hb') rfl
    | succ k =>
     cases k' with
     | zero => exact n3 b hb' b (k2 k b hb) rfl
     | succ k' => exact m2 k k' (by omega) b hb hb'
theorem zxq {sz : Nat} : ∀ {rows : List (List T)} {i j : Nat} {r : List T} {c : T}, lens sz rows -> rows[i]? = some r -> r[j]? = some c -> rows.flatten[i * sz + j]? = some c
 | [], _, _, _, _, _, h, _ => by simp at h
 | d :: rows, 0, j, r, c, hl, hr, hc => by
  simp only [List.getElem?_cons_zero, Option.some.injEq] at hr
  subst hr
  have hj : j < d.length := by
   rcases Nat.lt_or_ge j d.length with h | h
   ·exact h
   ·rw [List.getElem?_eq_none h] at hc; cases hc
  rw [List.flatten_cons, List.getElem?_append_left (by omega)]
  simpa using hc
 | d :: rows, i + 1, j, r, c, hl, hr, hc => by
  have hd : d.length = sz := hl d (by simp)
  have := zxq (sz := sz) (rows := rows) (fun r hr => hl r (by simp [hr])) (by simpa using hr) hc
  rw [List.flatten_cons, List.getElem?_append_right (by rw [hd, Nat.add_mul]; omega)]
  rwa [show (i + 1) * sz + j - d.length = i * sz + j by rw [hd, Nat.add_mul]; omega]
structure Fam (w : World) (σ : St) (g : Gh) (B : Sr -> List Nat) : Prop where
 whole : ∀ e, B (e, none) = g.φ e
 cell : ∀ e i j v t, onN (σ.ev e) i j v t -> zao w t v (B (e, some (i, j)))
 sub : ∀ e p b, σ.On e -> b ∈ B (e, p) -> b ∈ g.φ e
 nodup : ∀ e p, σ.On e -> (B (e, p)).Nodup
 apart : ∀ e p p', σ.On e -> p ≠ p' -> ∀ b ∈ B (e, some p), b ∉ B (e, some p')
theorem Rel.fam {n0 : Nat -> Prop} {N : Nat} {σ : St} {g : Gh} {a : Act} {w : World} (hR : Rel n0 N σ g a w) : ∃ B, Fam w σ g B := by
 have h1 : ∀ e, ∃ F : Nat × Nat -> List Nat, ∀ dp sz rows gn, σ.ev e = some ⟨dp, sz, rows, gn, true⟩ -> ((dp = true -> ∀ i j v t, rows[i]?.isSome = true -> (rows.getD i [])[j]? = some (.pin v t) -> zao w t v (F (i, j))) /\ (∀ p b, b ∈ F p -> b ∈ g.φ e) /\ (∀ p, (F p).Nodup) /\ ∀ p p', p ≠ p' -> ∀ b ∈ F p, b ∉ F p') := by
  intro e
  by_cases hon : ∃ sz rows gn, σ.ev e = some ⟨true, sz, rows, gn, true⟩
  ·obtain ⟨sz, rows, gn, he⟩ := hon
   have hnd := hR.nodup e ⟨_, he, rfl⟩
   obtain ⟨ao, cap, vs, k1, k2, k3, k4, k5, k6, k7⟩ := hR.vals he rfl
   rcases k7 with ⟨_, _, k7, k8⟩ | ⟨b, cells, ty, fps, k7, k8, k9, k10, k11, k12, k13⟩
   ·refine ⟨fun _ => [], fun dp sz' rows' gn' he' => ?_⟩
    rw [he, Option.some.injEq] at he'
    cases he'
    have k7 : rows = [] := k7
    subst k7
    exact ⟨fun _ i j v t h => by simp at h, by simp, by simp, by simp⟩
   ·obtain ⟨F, f1, f2, f3⟩ := (k12 rfl).fam
    rw [k8] at hnd
    obtain ⟨m1, m2⟩ := f3 (List.nodup_cons.1 hnd).2
    refine ⟨fun p => if p.2 < sz /\ p.1 < rows.length then F (p.1 * sz + p.2) else [], fun dp sz' rows' gn' he' => ?_⟩
    rw [he, Option.some.injEq] at he'
    cases he'
    refine ⟨fun _ i j v t h1 h2 => ?_, fun p b hb => ?_, fun p => ?_, fun p p' hne b hb hb' => ?_⟩
    ·obtain ⟨r, hr⟩ := Option.isSome_iff_exists.1 h1
     have hg : rows.getD i [] = r := by rw [List.getD_eq_getElem?_getD, hr]; rfl
     rw [hg] at h2
     have hj : j < sz := by
      have : r.length = sz := k4 r (List.mem_of_getElem? hr)
      rcases Nat.lt_or_ge j r.length with h | h
      ·omega
      ·rw [List.getElem?_eq_none h] at h2; cases h2
     have hi : i < rows.length := (List.getElem?_eq_some_iff.1 hr).1
     obtain ⟨u, _, hu⟩ := f1 _ _ (zxq k4 hr h2)
     show zao w t v (if j < sz /\ i < rows.length then F (i * sz + j) else [])
     rw [if_pos ⟨hj, hi⟩]
     unfold zao at hu
     obtain ⟨rfl, hu⟩ := hu
     exact hu
    ·by_cases hp : p.2 < sz /\ p.1 < rows.length
     ·simp only [if_pos hp] at hb; rw [k8]; exact List.mem_cons_of_mem _ (f2 _ _ hb)
     ·simp only [if_neg hp] at hb; simp at hb
    ·by_cases hp : p.2 < sz /\ p.1 < rows.length
     ·simp only [if_pos hp]; exact m1 _
     ·simp only [if_neg hp]; simp
    ·by_cases hp : p.2 < sz /\ p.1 < rows.length
     ·by_cases hp' : p'.2 < sz /\ p'.1 < rows.length
      ·simp only [if_pos hp, if_pos hp'] at hb hb'
       refine m2 _ _ (fun heq => hne ?_) b hb hb'
       obtain ⟨i, j⟩ := p
       obtain ⟨i', j'⟩ := p'
       simp only at hp hp' heq
       have hii : i = i' := by
        rcases Nat.lt_trichotomy i i' with h | h | h
        ·have := Nat.mul_le_mul_right sz (show i + 1 <= i' by omega); rw [Nat.add_mul] at this; omega
        ·exact h
        ·have := Nat.mul_le_mul_right sz (show i' + 1 <= i by omega); rw [Nat.add_mul] at this; omega
       subst hii
       have : j = j' := by omega
       subst this; rfl
      ·simp only [if_neg hp'] at hb'; simp at hb'
     ·simp only [if_neg hp] at hb; simp at hb
  ·refine ⟨fun _ => [], fun dp sz rows gn he => ⟨fun hd => ?_, by simp, by simp, by simp⟩⟩
   subst hd
   exact absurd ⟨sz, rows, gn, he⟩ hon
 refine ⟨fun s => match s.2 with | none => g.φ s.1 | some p => Classical.choose (h1 s.1) p, ⟨fun e => rfl, fun e i j v t ho => ?_, fun e p b ho hb => ?_, fun e p ho => ?_, fun e p p' ho hne b hb => ?_⟩⟩
 ·obtain ⟨⟨dp, sz, rows, gn, on⟩, he, h2, h3, h4, h5⟩ := zal ho
  simp only at h2 h3
  subst h2 h3
  exact (Classical.choose_spec (h1 e) true sz rows gn he).1 rfl i j v t h4 h5
 ·cases p with
  | none => exact hb
  | some p =>
   obtain ⟨⟨dp, sz, rows, gn, on⟩, he, ho⟩ := ho
   simp only at ho
   subst ho
   exact (Classical.choose_spec (h1 e) dp sz rows gn he).2.1 p b hb
 ·cases p with
  | none => exact hR.nodup e ho
  | some p =>
   obtain ⟨⟨dp, sz, rows, gn, on⟩, he, ho⟩ := ho
   simp only at ho
   subst ho
   exact (Classical.choose_spec (h1 e) dp sz rows gn he).2.2.1 p
 ·obtain ⟨⟨dp, sz, rows, gn, on⟩, he, ho⟩ := ho
  simp only at ho
  subst ho
  exact (Classical.choose_spec (h1 e) dp sz rows gn he).2.2.2 p p' hne b hb
def bks (B : Sr -> List Nat) (u : List Sr) : List Nat := u.flatMap B
def okP (s s' : Sr) : Prop := s.1 ≠ s'.1 \/ (s.2 ≠ none /\ s'.2 ≠ none /\ s.2 ≠ s'.2)
theorem okP.symm {s s' : Sr} (h : okP s s') : okP s' s := h.imp (fun h => Ne.symm h) fun h => ⟨h.2.1, h.1, Ne.symm h.2.2⟩
theorem zqp : ∀ {u : List Sr} {s : Sr}, okS u s = true -> ∀ x ∈ u, okP s x
 | [], _, _, x, hx => by simp at hx
 | (e, p) :: u, (e', p'), h, x, hx => by
  unfold okS at h
  rw [Bool.and_eq_true] at h
  rcases List.mem_cons.1 hx with rfl | hx
  ·have h1 := h.1
   by_cases he : e = e'
   ·rw [if_pos he] at h1
    right
    unfold okQ at h1
    split at h1
    ·rename_i a b
     refine ⟨by simp, by simp, fun e => ?_⟩
     simp only [Option.some.injEq] at e
     subst e
     simp at h1
    ·cases h1
   ·left; exact Ne.symm he
  ·exact zqp h.2 x hx
theorem zc2 {n0 : Nat -> Prop} {N : Nat} {σ : St} {g : Gh} {a : Act} {w : World} (hR : Rel n0 N σ g a w) {B : Sr -> List Nat} (hB : Fam w σ g B) : ∀ {s : List Sr}, (∀ x ∈ s, σ.On x.1) -> s.Pairwise okP -> (bks B s).Nodup
 | [], _, _ => List.nodup_nil
 | x :: s, ho, hp => by
  obtain ⟨p1, p2⟩ := List.pairwise_cons.1 hp
  unfold bks
  rw [List.flatMap_cons]
  refine List.nodup_append.2 ⟨hB.nodup x.1 x.2 (ho x (by simp)), zc2 hR hB (fun y hy => ho y (by simp [hy])) p2, fun b hb b' hb' hbb => ?_⟩
  subst hbb
  obtain ⟨y, hy, hb'⟩ := List.mem_flatMap.1 hb'
  obtain ⟨e, p⟩ := x
  obtain ⟨e', p'⟩ := y
  have o1 := ho (e, p) (by simp)
  have o2 := ho (e', p') (by simp [hy])
  rcases p1 (e', p') hy with h | ⟨h1, h2, h3⟩
  ·exact hR.apart e e' o1 o2 h b (hB.sub e p b o1 hb) (hB.sub e' p' b o2 hb')
  ·by_cases hee : e = e'
   ·subst hee
    cases p with
    | none => exact h1 rfl
    | some p =>
     cases p' with
     | none => exact h2 rfl
     | some p' => exact hB.apart e p p' o1 (fun h => h3 (by rw [h])) b hb hb'
   ·exact hR.apart e e' o1 o2 hee b (hB.sub e p b o1 hb) (hB.sub e' p' b o2 hb')
theorem qee {σ : St} {e i j : Nat} {v : Value} {t : T} (h : onN (σ.ev e) i j v t) : σ.On e := by
 obtain ⟨x, hx, h2, _⟩ := zal h
 exact ⟨x, hx, h2⟩
section
variable {n0 : Nat -> Prop} {N : Nat} {σ : St} {g : Gh} {a : Act} {w : World} (hR : Rel n0 N σ g a w) {B : Sr -> List Nat} (hB : Fam w σ g B)
include hR hB
theorem zcd {K : List Sr -> List (Nat × Nat × Nat) -> Prop} : ∀ {cs : List C} {ts : List T} {u : List Sr} {ps : List (Nat × Nat × Nat)} {vs : List Value}, gvK σ K u ps cs ts -> CRs σ g w cs vs →
  ∃ s ps' tp, K (s.reverse ++ u) ps' /\ ztm w ts vs (bks B s) tp /\ (∀ x ∈ s, σ.On x.1) /\ (u.Pairwise okP -> (s.reverse ++ u).Pairwise okP)
 | [], [], u, ps, vs, h, hv => ⟨[], ps, [], h, ⟨hv, rfl, rfl⟩, by simp, fun h => h⟩
 | [], _ :: _, _, _, _, h, _ => by cases h
 | c :: cs, [], u, ps, vs, h, hv => by cases c <;> first | exact (show False from h).elim | (cases ps <;> exact (show False from h).elim)
 | c :: cs, t :: ts, u, ps, vs, h, hv => by
  obtain ⟨v, vs', rfl, h1, h2⟩ := hv
  unfold gvK at h
  split at h
  ·rename_i e1 e2; cases e1
  ·rename_i x cs' t' ts' e1 e2
   cases e1; cases e2
   unfold gvT at h
   split at h
   ·rename_i v0 y e i j ps0
    obtain ⟨rfl, hok, he, h⟩ := h
    obtain ⟨s, ps', tp, k1, k2, k3, k4⟩ := zcd h h2
    unfold CR zai at h1
    obtain ⟨rfl, _⟩ := h1
    have ho := hB.cell e i j v y he
    refine ⟨(e, some (i, j)) :: s, ps', zg7 y (B (e, some (i, j))) ++ tp, by simpa using k1, ⟨v, vs', _, bks B s, tp, rfl, by unfold bks; rw [List.flatMap_cons], rfl, ho, k2⟩, fun x hx => ?_, fun hu => ?_⟩
    ·rcases List.mem_cons.1 hx with rfl | hx
     ·exact qee he
     ·exact k3 x hx
    ·have := k4 (List.pairwise_cons.2 ⟨zqp hok, hu⟩)
     simpa using this
   obtain ⟨rfl, hf, h⟩ := h
   obtain ⟨s, ps', tp, k1, k2, k3, k4⟩ := zcd h h2
   have ho : zao w x v [] := by
    cases x <;> simp only [T.flat, Bool.false_eq_true] at hf <;> simp only [CR, zai] at h1 <;> unfold zao
    ·exact ⟨h1.1, h1.2.1, h1.2.2, rfl⟩
    ·exact ⟨h1, rfl⟩
    ·exact ⟨h1.1, h1.2, rfl⟩
    ·exact ⟨h1, rfl⟩
   exact ⟨s, ps', zg7 x [] ++ tp, k1, ⟨v, vs', [], _, tp, rfl, rfl, rfl, ho, k2⟩, k3, k4⟩
  ·rename_i z cs' sz rows ts' e1 e2
   cases e1; cases e2
   obtain ⟨rfl, h⟩ := h
   obtain ⟨s, ps', tp, k1, k2, k3, k4⟩ := zcd h h2
   have ho : zao w (.sl sz []) v [] := by
    unfold zao
    exact ⟨none, 0, h1, by simp, by simp, Or.inl ⟨rfl, rfl, rfl, rfl⟩⟩
   exact ⟨s, ps', zg7 (.sl sz []) [] ++ tp, k1, ⟨v, vs', [], _, tp, rfl, rfl, rfl, ho, k2⟩, k3, k4⟩
  ·rename_i e gn cs' sz rows ts' e1 e2
   cases e1; cases e2
   obtain ⟨hok, he, h⟩ := h
   obtain ⟨s, ps', tp, k1, k2, k3, k4⟩ := zcd h h2
   have hou := he
   obtain ⟨⟨dp, sz0, rows0, gn0, on0⟩, hev, rfl, rfl, hrows, rfl, rfl⟩ := zal hou
   have ho : zao w (.sl sz0 rows) (g.ψ e gn0) (g.φ e) := by
    rcases hrows with rfl | rfl
    ·exact zdl hR hev
    ·exact (zdl hR hev).unpins
   have h1 : v = g.ψ e gn0 /\ _ := h1
   rw [<- h1.1] at ho
   refine ⟨(e, none) :: s, ps', zg7 (.sl _ _) (g.φ e) ++ tp, by simpa using k1, ⟨v, vs', g.φ e, bks B s, tp, rfl, by unfold bks; rw [List.flatMap_cons, hB.whole], rfl, ho, k2⟩, fun x hx => ?_, fun hu => ?_⟩
   ·rcases List.mem_cons.1 hx with rfl | hx
    ·exact ⟨_, hev, rfl⟩
    ·exact k3 x hx
   ·have := k4 (List.pairwise_cons.2 ⟨zqp hok, hu⟩)
    simpa using this
  ·rename_i e i j ps0 v0 cs' t' ts' e1 e2
   cases e1; cases e2
   obtain ⟨hok, he, h⟩ := h
   obtain ⟨s, ps', tp, k1, k2, k3, k4⟩ := zcd h h2
   have h1 : v = v0 := h1
   subst h1
   have ho := hB.cell e i j v t he
   refine ⟨(e, some (i, j)) :: s, ps', zg7 t (B (e, some (i, j))) ++ tp, by simpa using k1, ⟨v, vs', _, bks B s, tp, rfl, by unfold bks; rw [List.flatMap_cons], rfl, ho, k2⟩, fun x hx => ?_, fun hu => ?_⟩
   ·rcases List.mem_cons.1 hx with rfl | hx
    ·exact qee he
    ·exact k3 x hx
   ·have := k4 (List.pairwise_cons.2 ⟨zqp hok, hu⟩)
    simpa using this
  ·exact h.elim
omit hB in
theorem zyh {FP : List Nat} (hFP : ∀ b ∈ FP, ∃ e, σ.On e /\ b ∈ g.φ e) {c : C} {t : T} {v : Value} (h : rdC c t) (hv : CR σ g w c v) : zai w (fun b => b < w.heap.size /\ b ∉ FP) t v := by
 unfold rdC at h
 split at h
 ·rename_i x
  obtain ⟨rfl, hn⟩ := h
  exact zia (σ := σ) (g := g) (x := .one (.t x)) (d := .one x) ⟨rfl, hn⟩ hv _
 ·rename_i f f'
  subst h
  exact zia (σ := σ) (g := g) (x := .one (.fn f [])) (d := .one (.fn f [])) rfl hv _
 ·subst h
  refine zai.keep (fun _ _ => rfl) (fun b hb => ⟨hb.1.2.2.1, fun hm => ?_⟩) _ v hv
  obtain ⟨e, ho, hm⟩ := hFP b hm
  exact hb.2 e ho hm
 ·obtain ⟨rfl, rfl⟩ := h
  obtain ⟨b, q, h1, h2, h3⟩ := hv
  have hk : ∀ b, zbr σ g w b -> b < w.heap.size /\ b ∉ FP := fun b hb => ⟨hb.1.2.2.1, fun hm => by obtain ⟨e, ho, hm⟩ := hFP b hm; exact hb.2 e ho hm⟩
  unfold zai
  exact ⟨b, q, h1, hk b h2, zaz.keep (fun _ _ => rfl) hk b rfl q _ h3⟩
 ·subst h
  rw [show v = .slice none 0 0 from hv]
  unfold zai
  exact ⟨none, 0, rfl, by simp, by simp, Or.inl rfl⟩
 ·exact h.elim
omit hB in
theorem zq6 {FP : List Nat} (hFP : ∀ b ∈ FP, ∃ e, σ.On e /\ b ∈ g.φ e) : ∀ {cs : List C} {ts : List T} {vs : List Value}, rdCs cs ts -> CRs σ g w cs vs -> zad w (fun b => b < w.heap.size /\ b ∉ FP) ts vs
 | [], [], vs, _, hv => by unfold zad; exact hv
 | [], _ :: _, _, h, _ => h.elim
 | _ :: _, [], _, h, _ => h.elim
 | c :: cs, t :: ts, vs, h, hv => by
  obtain ⟨v, vs', rfl, h1, h2⟩ := hv
  unfold zad
  exact ⟨v, vs', rfl, zyh hR hFP h.1 h1, zq6 hFP h.2 h2⟩
theorem zea {K : List Sr -> Prop} : ∀ {xs : List V} {ds : List (Bool × D)} {u : List Sr} {ps : List (Nat × Nat × Nat)} {vs : List Value}, gvA σ K u ps xs ds -> VRl σ g w xs vs →
  ∃ s, K (s.reverse ++ u) /\ (∀ FP : List Nat, (∀ b ∈ FP, ∃ e, σ.On e /\ b ∈ g.φ e) -> ∃ tp, zas w (fun b => b < w.heap.size /\ b ∉ FP) ds vs (bks B s) tp) /\ (∀ x ∈ s, σ.On x.1) /\ (u.Pairwise okP -> (s.reverse ++ u).Pairwise okP)
 | [], [], u, ps, vs, h, hv => ⟨[], h, fun _ _ => ⟨[], hv, rfl, rfl⟩, by simp, fun h => h⟩
 | [], _ :: _, _, _, _, h, _ => h.elim
 | x :: xs, [], _, _, _, h, _ => by cases x <;> exact h.elim
 | x :: xs, (false, d) :: ds, u, ps, vs, h, hv => by
  obtain ⟨v, vs', rfl, h1, h2⟩ := hv
  unfold gvA at h
  obtain ⟨hr, h⟩ := h
  obtain ⟨s, k1, k2, k3, k4⟩ := zea h h2
  refine ⟨s, k1, fun FP hFP => ?_, k3, k4⟩
  obtain ⟨tp, k2⟩ := k2 FP hFP
  refine ⟨tp, v, vs', rfl, ?_, k2⟩
  unfold rdV at hr
  split at hr
  ·exact zyh hR hFP hr h1
  ·obtain ⟨b, e, h1⟩ := h1; exact ⟨b, e, zq6 hR hFP hr h1⟩
  ·exact hr.elim
 | .one c :: xs, (true, .one t) :: ds, u, ps, vs, h, hv => by
  obtain ⟨v, vs', rfl, h1, h2⟩ := hv
  unfold gvA at h
  obtain ⟨s, ps', tp, k1, k2, k3, k4⟩ := zcd hR hB h (vs := [v]) ⟨v, [], rfl, h1, rfl⟩
  obtain ⟨s', j1, j2, j3, j4⟩ := zea k1 h2
  obtain ⟨v0, vs0, f1, f2, t2, e0, e1, rfl, q1, q2⟩ := k2
  cases e0
  obtain ⟨_, rfl, rfl⟩ := q2
  rw [List.append_nil] at e1
  refine ⟨s ++ s', by simpa using j1, fun FP hFP => ?_, fun x hx => ?_, fun hu => by simpa using j4 (k4 hu)⟩
  ·obtain ⟨tp', j2⟩ := j2 FP hFP
   exact ⟨zg7 t f1 ++ tp', v, vs', bks B s, bks B s', _, tp', rfl, by unfold bks; rw [List.flatMap_append], rfl, ⟨by rw [e1]; exact q1, by rw [e1]⟩, j2⟩
  ·rcases List.mem_append.1 hx with hx | hx
   ·exact k3 x hx
   ·exact j3 x hx
 | .agg cs :: xs, (true, .agg ts) :: ds, u, ps, vs, h, hv => by
  obtain ⟨v, vs', rfl, ⟨y, rfl, h1⟩, h2⟩ := hv
  unfold gvA at h
  obtain ⟨s, ps', tp, k1, k2, k3, k4⟩ := zcd hR hB h h1
  obtain ⟨s', j1, j2, j3, j4⟩ := zea k1 h2
  refine ⟨s ++ s', by simpa using j1, fun FP hFP => ?_, fun x hx => ?_, fun hu => by simpa using j4 (k4 hu)⟩
  ·obtain ⟨tp', j2⟩ := j2 FP hFP
   exact ⟨tp ++ tp', _, vs', bks B s, bks B s', tp, tp', rfl, by unfold bks; rw [List.flatMap_append], rfl, ⟨y, rfl, k2⟩, j2⟩
  ·rcases List.mem_append.1 hx with hx | hx
   ·exact k3 x hx
   ·exact j3 x hx
 | .one _ :: _, (true, .agg _) :: _, _, _, _, h, _ => h.elim
 | .agg _ :: _, (true, .one _) :: _, _, _, _, h, _ => h.elim
 | .tup _ :: _, (true, d) :: _, _, _, _, h, _ => by cases d <;> exact h.elim
end
end Go.Proofs.YtaaniggpnljckaaGreat
namespace Go.Proofs.YtaaniggpnljckaaGreat
set_option linter.unusedSimpArgs false
set_option linter.unusedVariables false
set_option linter.unusedSectionVars false
set_option maxRecDepth 4000
open Go.RowKit
variable {P : Program}
def C.okU (τ : St) : C -> Prop
 | .t x => x.flat = true
 | .nl _ => True
 | .ow e g => zam (τ.ev e) fun x => g <= x.gen
 | .bx b _ => τ.bx b ≠ none
 | .el _ _ => False
 | .er _ _ => True
 | .eo e s _ _ _ => zam (τ.ev e) fun x => s <= x.gen
 | .vw e s _ _ => zam (τ.ev e) fun x => s <= x.gen
 | .fn _ caps => zte τ caps
 | .cv _ => True
 | .any => True
 | .rn _ => True
def qcd (τ : St) : List C -> Prop
 | [] => True
 | c :: cs => c.okU τ /\ qcd τ cs
def okUt (τ : St) : List (Bool × List C) -> Prop
 | [] => True
 | x :: xs => qcd τ x.2 /\ okUt τ xs
def V.okU (τ : St) : V -> Prop
 | .one c => c.okU τ
 | .agg cs => qcd τ cs
 | .tup xs => okUt τ xs
structure Kept (σ τ : St) : Prop where
 sl : ∀ i, τ.sl i = .one .any \/ (τ.sl i = σ.sl i /\ (τ.sl i).okU τ)
 bx : ∀ b cs, τ.bx b = some cs -> σ.bx b = some cs /\ qcd τ cs
 ev : ∀ e x, τ.ev e = some x -> σ.ev e = some x /\ x.on = true /\ x.deep = true
section
variable {σ τ : St} {g g' : Gh} {w w' : World} {ev' : Nat -> Option Ev} (hβ : g'.β = g.β) (hψ : ∀ e, τ.ev e ≠ none -> ev' e = τ.ev e /\ g'.ψ e = g.ψ e) (hrn : ∀ b, zbr σ g w b -> w'.heap[b]? = w.heap[b]? /\ zbr ⟨τ.sl, τ.bx, ev'⟩ g' w' b)
include hβ hψ hrn
theorem zy9 {c : C} {v : Value} (hc : c.okU τ) (h : CR σ g w c v) : CR ⟨τ.sl, τ.bx, ev'⟩ g' w' c v := by
 have hh : ∀ {e n : Nat}, zam (τ.ev e) (fun x => n <= x.gen) -> g'.ψ e = g.ψ e /\ St.has ⟨τ.sl, τ.bx, ev'⟩ e n := fun {e n} ho => by
  obtain ⟨x, hx, hn⟩ := zal ho
  obtain ⟨k1, k2⟩ := hψ e (by rw [hx]; simp)
  exact ⟨k2, x, k1.trans hx, hn⟩
 cases c with
 | t x => exact zc8 hc h
 | nl s => exact h
 | ow e n => obtain ⟨k1, k2⟩ := hh hc; exact ⟨by rw [k1]; exact h.1, k2⟩
 | bx b o => exact ⟨by rw [hβ]; exact h.1, hc⟩
 | el cs o => exact hc.elim
 | eo e s sz i o => obtain ⟨k1, k2⟩ := hh hc; obtain ⟨b, n, c, q1, q2, q3, q4⟩ := h; exact ⟨b, n, c, by rw [k1]; exact q1, q2, q3, k2⟩
 | vw e s sz i => obtain ⟨k1, k2⟩ := hh hc; obtain ⟨b, n, c, q1, q2, q3, q4⟩ := h; exact ⟨b, n, c, by rw [k1]; exact q1, q2, q3, k2⟩
 | fn f caps => exact ⟨by rw [hβ]; exact h.1, fun b hb => zh0 (show zte τ caps from hc) b hb⟩
 | cv u => exact h
 | any => trivial
 | rn x => exact zai.keep (fun b hb => (hrn b hb).1) (fun b hb => (hrn b hb).2) x v h
 | er cs o => obtain ⟨b, q, h1, h2, h3⟩ := h; exact ⟨b, q, h1, (hrn b h2).2, zaz.keep (fun b hb => (hrn b hb).1) (fun b hb => (hrn b hb).2) b (hrn b h2).1 q cs h3⟩
theorem zis : ∀ {cs : List C} {vs : List Value}, qcd τ cs -> CRs σ g w cs vs -> CRs ⟨τ.sl, τ.bx, ev'⟩ g' w' cs vs
 | [], _, _, h => h
 | c :: cs, vs, hc, h => by
  obtain ⟨v, vs', rfl, h1, h2⟩ := h
  exact ⟨v, vs', rfl, zy9 hβ hψ hrn hc.1 h1, zis hc.2 h2⟩
theorem zud : ∀ {xs : List (Bool × List C)} {vs : List Value}, okUt τ xs -> CRt σ g w xs vs -> CRt ⟨τ.sl, τ.bx, ev'⟩ g' w' xs vs
 | [], _, _, h => h
 | x :: xs, vs, hc, h => by
  obtain ⟨v, vs', rfl, h1, h2⟩ := h
  refine ⟨v, vs', rfl, ?_, zud hc.2 h2⟩
  unfold CRx at h1 ⊢
  split at h1
  ·rw [if_pos ‹_›]; obtain ⟨a, k1, k2⟩ := h1; exact ⟨a, k1, zis hβ hψ hrn hc.1 k2⟩
  ·rw [if_neg ‹_›]
   obtain ⟨c, k1, k2⟩ := h1
   refine ⟨c, k1, zy9 hβ hψ hrn ?_ k2⟩
   have := hc.1
   rw [k1] at this
   exact this.1
theorem qeh {x : V} {v : Value} (hc : x.okU τ) (h : VR σ g w x v) : VR ⟨τ.sl, τ.bx, ev'⟩ g' w' x v := by
 cases x with
 | one c => exact zy9 hβ hψ hrn hc h
 | agg cs => obtain ⟨a, k1, k2⟩ := h; exact ⟨a, k1, zis hβ hψ hrn hc k2⟩
 | tup xs => obtain ⟨a, k1, k2⟩ := h; exact ⟨a, k1, zud hβ hψ hrn hc k2⟩
end
theorem Rel.given {n0 : Nat -> Prop} {N : Nat} {σ τ : St} {g g' : Gh} {a : Act} {w w' : World} (hR : Rel n0 N σ g a w) (hn0 : LtK n0 w) (hK : Kept σ τ) {fp : List Nat} (hfp : ∀ b ∈ fp, ∃ e, σ.On e /\ τ.ev e = none /\ b ∈ g.φ e) (hbk : Bk (fun k => k < w.heap.size /\ k ∉ fp) w w')
  {ev' : Nat -> Option Ev} {F : List Nat} (hn : New τ g (fun b => b ∈ fp \/ w.heap.size <= b) w' ev' g' F) : Rel n0 N ⟨τ.sl, τ.bx, ev'⟩ g' a w' := by
 have hOnσ : ∀ e, τ.On e -> σ.On e := fun e ⟨x, hx, ho⟩ => ⟨x, (hK.ev e x hx).1, ho⟩
 have hlt : ∀ e, σ.On e -> ∀ b ∈ g.φ e, b < w.heap.size := fun e ⟨x, hx, ho⟩ => (hR.evs e x hx ho).lt
 have hbne : ∀ b, τ.bx b ≠ none -> σ.bx b ≠ none := fun b hb => by
  obtain ⟨cs, hcs⟩ := Option.ne_none_iff_exists'.1 hb
  rw [(hK.bx b cs hcs).1]; simp
 have hfR : ∀ b ∈ fp, g.A0 b /\ g.R0 b /\ ¬ n0 b := fun b hb => by
  obtain ⟨e, ho, _, hm⟩ := hfp b hb
  obtain ⟨k1, k2⟩ := hR.ebase e ho b hm
  exact ⟨k1, k2, hR.etop e ho b hm⟩
 have hNB : ∀ b, (b ∈ fp \/ w.heap.size <= b) -> g.A0 b /\ g.R0 b /\ ¬ n0 b := fun b hb => by
  rcases hb with hb | hb
  ·exact hfR b hb
  ·have hnn := hn0.new hb
   exact ⟨(hR.anew b hnn).1, (hR.anew b hnn).2, hnn⟩
 have hβfp : ∀ b, τ.bx b ≠ none -> ¬ (g.β b ∈ fp \/ w.heap.size <= g.β b) := fun b hb h => by
  rcases h with h | h
  ·obtain ⟨e, ho, _, hm⟩ := hfp _ h
   exact hR.ebx e b ho (hbne b hb) hm
  ·have := hR.lt (hbne b hb); omega
 have hφfp : ∀ e, τ.On e -> ∀ b ∈ g.φ e, ¬ (b ∈ fp \/ w.heap.size <= b) := fun e ho b hb h => by
  rcases h with h | h
  ·obtain ⟨e', ho', hno, hm⟩ := hfp b h
   refine hR.apart e e' (hOnσ e ho) ho' (fun hee => ?_) b hb hm
   subst hee
   obtain ⟨x, hx, _⟩ := ho
   rw [hx] at hno; cases hno
  ·have := hlt e (hOnσ e ho) b hb; omega
 have hon : ∀ e, St.On ⟨τ.sl, τ.bx, ev'⟩ e -> τ.ev e ≠ none -> τ.On e := fun e ⟨x, hx, ho⟩ hee => ⟨x, (hn.old e hee).1.symm.trans hx, ho⟩
 have hkeep : ∀ b, b < w.heap.size -> b ∉ fp -> w'.heap[b]? = w.heap[b]? := fun b h1 h2 => hbk.block b ⟨h1, h2⟩
 have hrn : ∀ b, zbr σ g w b -> w'.heap[b]? = w.heap[b]? /\ zbr ⟨τ.sl, τ.bx, ev'⟩ g' w' b := fun b hb => by
  obtain ⟨hf, hr⟩ := hb
  have hnb : ∀ e, St.On ⟨τ.sl, τ.bx, ev'⟩ e -> b ∉ g'.φ e := fun e ho hm => by
   by_cases hee : τ.ev e = none
   ·obtain ⟨x, hx, _⟩ := ho
    rcases ((hn.new e x hee hx).2.2.1 b hm).1 with h | h
    ·obtain ⟨e', ho', _, hm'⟩ := hfp b h
     exact hr e' ho' hm'
    ·have := hf.2.2.1; omega
   ·rw [(hn.old e hee).2.2] at hm
    exact hr e (hOnσ e (hon e ho hee)) hm
  refine ⟨hkeep b hf.2.2.1 (fun hm => by obtain ⟨e', ho', _, hm'⟩ := hfp b hm; exact hr e' ho' hm'), ⟨fun k hk => by rw [hn.β]; exact hf.1 k (hbne k hk), fun e x hx hon' hh => hnb e ⟨x, hx, hon'⟩ (List.mem_of_mem_head? hh), Nat.lt_of_lt_of_le hf.2.2.1 hbk.size, by rw [hn.A0]; exact hf.2.2.2⟩, hnb⟩
 have hψ : ∀ e, τ.ev e ≠ none -> ev' e = τ.ev e /\ g'.ψ e = g.ψ e := fun e he => ⟨(hn.old e he).1, (hn.old e he).2.1⟩
 refine ⟨by rw [hR.defers], hR.size, by rw [hn.A0, hn.R0]; exact hR.anew, fun i => ?_, fun b cs hb => ?_, fun b hb => by rw [hn.β]; exact hR.base b (hbne b hb), fun b b' h1 h2 h3 => by rw [hn.β] at h3; exact hR.inj b b' (hbne b h1) (hbne b' h2) h3, fun e x he ho => ?_, fun e x he ho => ?_, hn.slc, fun e he b hb => ?_, fun e he b hb => ?_, fun e he => ?_, fun e e' h1 h2 hne b hb1 hb2 => ?_, fun e k he hk hm => ?_⟩
 ·rcases hK.sl i with h | ⟨h, hok⟩
  ·rw [show (⟨τ.sl, τ.bx, ev'⟩ : St).sl i = .one .any from h]; trivial
  ·rw [hn.R0]
   show VR _ g' w' (τ.sl i) _
   have hs := hR.slots i
   rw [<- h] at hs
   exact qeh hn.β hψ hrn hok hs
 ·obtain ⟨hb1, hb2⟩ := hK.bx b cs hb
  obtain ⟨vs, ty, k1, k2⟩ := hR.boxes b cs hb1
  have hne : τ.bx b ≠ none := by rw [show τ.bx b = some cs from hb]; simp
  have hnf := hβfp b hne
  exact ⟨vs, ty, by rw [hn.β, hkeep _ (hR.lt (hbne b hne)) (fun h => hnf (Or.inl h))]; exact k1, zis hn.β hψ hrn hb2 k2⟩
 ·by_cases hee : τ.ev e = none
  ·obtain ⟨⟨k1, _, k0⟩, k2, k3, k4⟩ := hn.new e x hee he
   rw [k0]
   unfold zao at k2
   obtain ⟨ao, cap, j1, j2, j3, j4⟩ := k2
   refine ⟨ao, cap, j1, j2, j3, ?_⟩
   rcases j4 with j4 | ⟨b, cells, ty, fps, j4, j5, j6, j7, j8⟩
   ·exact Or.inl j4
   ·exact Or.inr ⟨b, cells, ty, fps, j4, j5, j6, j7, by rw [if_pos k1]; exact j8⟩
  ·obtain ⟨o1, o2, o3⟩ := hn.old e hee
   have hx : τ.ev e = some x := o1.symm.trans he
   obtain ⟨k1, k2, k3⟩ := hK.ev e x hx
   have hE := hR.evs e x k1 k2
   have hno := hφfp e ⟨x, hx, k2⟩
   have hl := hlt e ⟨x, k1, k2⟩
   have hkp : ∀ b ∈ g.φ e, w'.heap[b]? = w.heap[b]? := fun b hb => hkeep b (hl b hb) fun h => hno b hb (Or.inl h)
   rw [o2, o3]
   obtain ⟨ao, cap, r1, r2, r3, r4⟩ := hE
   refine ⟨ao, cap, r1, r2, r3, ?_⟩
   rcases r4 with r4 | ⟨b, cells, ty, fps, r4, r5, r6, r7, r8⟩
   ·exact Or.inl r4
   ·rw [if_pos k3] at r8
    exact Or.inr ⟨b, cells, ty, fps, r4, r5, by rw [hkp b (by rw [r5]; simp)]; exact r6, r7, by rw [if_pos k3]; exact zag.keep cells 0 x.sz x.rows fps r8 fun b' hb' => hkp b' (by rw [r5]; simp [hb'])⟩
 ·by_cases hee : τ.ev e = none
  ·rw [(hn.new e x hee he).1.2.1] at ho; cases ho
  ·have hx : τ.ev e = some x := (hn.old e hee).1.symm.trans he
   rw [(hK.ev e x hx).2.1] at ho; cases ho
 ·rw [hn.A0, hn.R0]
  by_cases hee : τ.ev e = none
  ·obtain ⟨x, hx, _⟩ := he
   have := hNB b ((hn.new e x hee hx).2.2.1 b hb).1
   exact ⟨this.1, this.2.1⟩
  ·rw [(hn.old e hee).2.2] at hb
   exact hR.ebase e (hOnσ e (hon e he hee)) b hb
 ·by_cases hee : τ.ev e = none
  ·obtain ⟨x, hx, _⟩ := he
   exact (hNB b ((hn.new e x hee hx).2.2.1 b hb).1).2.2
  ·rw [(hn.old e hee).2.2] at hb
   exact hR.etop e (hOnσ e (hon e he hee)) b hb
 ·by_cases hee : τ.ev e = none
  ·obtain ⟨x, hx, _⟩ := he
   exact (hn.new e x hee hx).2.2.2
  ·rw [(hn.old e hee).2.2]
   exact hR.nodup e (hOnσ e (hon e he hee))
 ·by_cases hee : τ.ev e = none
  ·obtain ⟨x, hx, _⟩ := h1
   by_cases hee' : τ.ev e' = none
   ·obtain ⟨x', hx', _⟩ := h2
    exact hn.apart e e' hee hee' (by rw [show ev' e = some x from hx]; simp) (by rw [show ev' e' = some x' from hx']; simp) hne b hb1 hb2
   ·rw [(hn.old e' hee').2.2] at hb2
    exact hφfp e' (hon e' h2 hee') b hb2 ((hn.new e x hee hx).2.2.1 b hb1).1
  ·rw [(hn.old e hee).2.2] at hb1
   by_cases hee' : τ.ev e' = none
   ·obtain ⟨x', hx', _⟩ := h2
    exact hφfp e (hon e h1 hee) b hb1 ((hn.new e' x' hee' hx').2.2.1 b hb2).1
   ·rw [(hn.old e' hee').2.2] at hb2
    exact hR.apart e e' (hOnσ e (hon e h1 hee)) (hOnσ e' (hon e' h2 hee')) hne b hb1 hb2
 ·rw [hn.β] at hm
  by_cases hee : τ.ev e = none
  ·obtain ⟨x, hx, _⟩ := he
   exact hβfp k hk ((hn.new e x hee hx).2.2.1 _ hm).1
  ·rw [(hn.old e hee).2.2] at hm
   exact hR.ebx e k (hOnσ e (hon e he hee)) (hbne k hk) hm
theorem zyq {o : Oper} {σ τ : St} {x : Operand} {asx : Array Operand} {ts : Array TypeId} {f : FuncId} {cvs : List V} {d : Nat} {ds : List (Bool × D)} {res : List D} {ps : List (Nat × Nat × Nat)} (ho : o.op = .call ⟨.value x, asx, ts⟩) (hd : o.dst = some d)
  (h : GC P f ds res) (hc : zat (σ.get P 0 x) = some (f, cvs)) (hK : Kept σ τ) (hv : gvA σ (fun u => ∀ s ∈ u, τ.ev s.1 = none) [] ps (σ.gets P asx ts ++ cvs) ds) (hf : zfc d 0 (za1 res) τ.ev) : zae P o σ (τ.callF d res) := by
 intro n0 N g a w hR hn hdN
 obtain ⟨vs, h1, h2⟩ := zcj hR ho hc h.1
 unfold Oper.wp
 rw [h1]
 obtain ⟨B, hB⟩ := hR.fam
 obtain ⟨s, k1, k2, k3, k4⟩ := zea hR hB hv h2
 rw [List.append_nil] at k1 k4
 have hsp : s.Pairwise okP := by
  have := (List.pairwise_reverse.1 (k4 List.Pairwise.nil))
  exact this.imp fun h => h.symm
 have hnd := zc2 hR hB k3 hsp
 have hfp : ∀ b ∈ bks B s, ∃ e, σ.On e /\ τ.ev e = none /\ b ∈ g.φ e := fun b hb => by
  obtain ⟨x, hx, hm⟩ := List.mem_flatMap.1 hb
  exact ⟨x.1, k3 x hx, k1 x (List.mem_reverse.2 hx), hB.sub x.1 x.2 b (k3 x hx) hm⟩
 obtain ⟨tp, k2⟩ := k2 (bks B s) fun b hb => by obtain ⟨e, h1, _, h3⟩ := hfp b hb; exact ⟨e, h1, h3⟩
 refine (h.2 w vs (bks B s) tp k2 hnd).mono ?_
 rintro e w' ⟨us, fp', tp', rfl, o1, o2, o3, hbk⟩
 have o1' := zga.of_g o1
 obtain ⟨g', q1, q2, q3⟩ := New.cells (σ := τ) (g := g) (NB := fun b => b ∈ bks B s \/ w.heap.size <= b) (w' := w') d (za1 res) _ fp' 0 τ.ev g [] (New.refl _ _ _ _ hR.slc) (fun e h1 h2 => absurd h1 h2) hf o1'.cells o2 (fun b hb' => ⟨o3 b hb', by simp⟩)
 have hR' := hR.given hn hK hfp hbk q1
 have hBk : Bk n0 w w' := ⟨hbk.os, hbk.tape, hbk.output, hbk.size, fun k hk => hbk.block k ⟨hn k hk, fun hm => by
  obtain ⟨e, h1, _, h3⟩ := hfp k hm
  exact hR.etop e h1 k h3 hk⟩⟩
 refine ⟨g', ?_, hBk, q1.A0, q1.R0⟩
 have hp := hR'.put (some d) (x := zk6 (zth d 0 res)) (v := zbk us) (zd1 (zio d 0 o1' (q3 _ _ rfl)) (zfi d res 0)) (fun i hi => by cases hi; exact hdN d hd)
 rw [hd]
 exact hp
def zs2 {α : Type} : List (Nat × α) -> Nat -> Prop
 | [], _ => True
 | p :: l, i => (i = p.1) = False /\ zs2 l i
def zct {α β : Type} (l : List (Nat × β)) : List (Nat × α) -> Prop
 | [] => True
 | p :: la => zs2 l p.1 /\ zct l la
def okL (τ : St) : List (Nat × V) -> Prop
 | [] => True
 | p :: l => p.2.okU τ /\ okL τ l
def okB (τ : St) : List (Nat × List C) -> Prop
 | [] => True
 | p :: l => qcd τ p.2 /\ okB τ l
def okE : List (Nat × Ev) -> Prop
 | [] => True
 | p :: l => p.2.on = true /\ p.2.deep = true /\ okE l
def zm9 (el : List (Nat × Ev)) : List Sr -> Prop
 | [] => True
 | s :: u => zs2 el s.1 /\ zm9 el u
theorem ziu {α : Type} : ∀ {l : List (Nat × α)} {i : Nat}, zs2 l i -> tbl l i = none
 | [], _, _ => rfl
 | (j, v) :: l, i, h => by unfold tbl; rw [if_neg (fun e => of_eq_false h.1 e), ziu h.2]
theorem zft {el : List (Nat × Ev)} : ∀ {u : List Sr}, zm9 el u -> ∀ s ∈ u, tbl el s.1 = none
 | [], _, s, hs => by simp at hs
 | x :: u, h, s, hs => by
  rcases List.mem_cons.1 hs with rfl | hs
  ·exact ziu h.1
  ·exact zft h.2 s hs
theorem zjo : ∀ {l : List (Nat × V)} {i : Nat}, zs2 l i -> ze0 l i = .one .any
 | [], _, _ => rfl
 | (j, v) :: l, i, h => by unfold ze0; rw [if_neg (fun e => of_eq_false h.1 e), zjo h.2]
theorem zke {l : List (Nat × V)} : ∀ {la : List (Nat × V)}, zct l la -> ∀ i, ze0 l i = .one .any \/ ze0 l i = ze0 (la ++ l) i
 | [], _, i => Or.inr rfl
 | (j, v) :: la, h, i => by
  by_cases hij : i = j
  ·subst hij; exact Or.inl (zjo h.1)
  ·rw [List.cons_append]
   show _ \/ ze0 l i = if i = j then v else ze0 (la ++ l) i
   rw [if_neg hij]
   exact zke h.2 i
theorem zh1 {α : Type} {l : List (Nat × α)} : ∀ {la : List (Nat × α)}, zct l la -> ∀ i x, tbl l i = some x -> tbl (la ++ l) i = some x
 | [], _, i, x, hx => hx
 | (j, v) :: la, h, i, x, hx => by
  by_cases hij : i = j
  ·subst hij; rw [ziu h.1] at hx; cases hx
  ·rw [List.cons_append]
   show (if i = j then some v else tbl (la ++ l) i) = some x
   rw [if_neg hij]
   exact zh1 h.2 i x hx
theorem zkv {τ : St} : ∀ {l : List (Nat × V)}, okL τ l -> ∀ i, (ze0 l i).okU τ
 | [], _, _ => trivial
 | (j, v) :: l, h, i => by
  unfold ze0
  split
  ·exact h.1
  ·exact zkv h.2 i
theorem zk0 {τ : St} : ∀ {l : List (Nat × List C)}, okB τ l -> ∀ b cs, tbl l b = some cs -> qcd τ cs
 | [], _, _, _, h => by cases h
 | (j, v) :: l, h, b, cs, hb => by
  unfold tbl at hb
  split at hb
  ·cases hb; exact h.1
  ·exact zk0 h.2 b cs hb
theorem zj9 : ∀ {l : List (Nat × Ev)}, okE l -> ∀ e x, tbl l e = some x -> x.on = true /\ x.deep = true
 | [], _, _, _, h => by cases h
 | (j, v) :: l, h, e, x, hb => by
  unfold tbl at hb
  split at hb
  ·cases hb; exact ⟨h.1, h.2.1⟩
  ·exact zj9 h.2.2 e x hb
section
variable {ks : List Fr} {Q : Exit -> St -> Prop} {σ : St} {ops : Array Oper} {os : List Oper} {ty : TypeId} {ps : String} {af : Array Edge} {d : Nat} {x : Operand} {asx : Array Operand} {ts : Array TypeId} {f : FuncId} {ds : List (Bool × D)} {res : List D}
theorem callG (la l : List (Nat × V)) (ba bl : List (Nat × List C)) (ea el : List (Nat × Ev)) (pl : List (Nat × Nat × Nat)) (h : GC P f ds res)
  (hw : wkL σ (hd (la ++ l) (ba ++ bl) (ea ++ el)) (la ++ l) /\ wkB σ (hd (la ++ l) (ba ++ bl) (ea ++ el)) (ba ++ bl) /\ wkE σ (ea ++ el))
  (hk : zct l la /\ zct bl ba /\ zct el ea /\ okL (hd l bl el) l /\ okB (hd l bl el) bl /\ okE el)
  (hp : zam (zat ((hd (la ++ l) (ba ++ bl) (ea ++ el)).get P 0 x)) fun p => p.1 = f /\ gvA (hd (la ++ l) (ba ++ bl) (ea ++ el)) (zm9 el) [] pl ((hd (la ++ l) (ba ++ bl) (ea ++ el)).gets P asx ts ++ p.2) ds) (hf : zfc d 0 (za1 res) (hd l bl el).ev)
  (k : exo P ops os ks Q ((hd l bl el).callF d res)) : exo P ops (⟨some d, .call ⟨.value x, asx, ts⟩, ty, ps, af, none⟩ :: os) ks Q σ := by
 obtain ⟨⟨f', cvs⟩, h1, rfl, h2⟩ := zal hp
 obtain ⟨k1, k2, k3, k4, k5, k6⟩ := hk
 refine zca rfl rfl (zae.pre (zab hw) (zyq (P := P) (o := ⟨some d, .call ⟨.value x, asx, ts⟩, ty, ps, af, none⟩) rfl rfl h h1 (τ := hd l bl el) ⟨fun i => ?_, fun b cs hb => ⟨zh1 k2 b cs hb, zk0 k5 b cs hb⟩, fun e x he => ⟨zh1 k3 e x he, zj9 k6 e x he⟩⟩ (zeu (fun u hu => zft hu) h2) hf)) k
 rcases zke k1 i with h | h
 ·exact Or.inl h
 ·exact Or.inr ⟨h, zkv k4 i⟩
end
attribute [go_sem] gvT owU ze9 zho zs2 zct okL okB okE zm9 C.okU qcd okUt V.okU gvA gvK okS okQ rdV rdC rdCs
end Go.Proofs.YtaaniggpnljckaaGreat
namespace Go.Proofs.YtaaniggpnljckaaGreat
set_option linter.unusedSimpArgs false
set_option linter.unusedVariables false
set_option linter.unusedSectionVars false
set_option maxRecDepth 4000
open Go.RowKit
variable {P : Program}
def qb1 : Option (Nat × List (List C)) -> List (List C)
 | some p => p.2
 | none => []
def blK (d : Nat) : Option (Ev × List (Nat × Ev)) -> List (Nat × Ev)
 | some (x, cons) => (d * 32, x) :: zq1 cons
 | none => []
def apKs : Option (Prop × Nat × Ev × List (Nat × Ev)) -> List Ky
 | some (_, e, _, cons) => (2, e) :: cons.map (fun p => (2, p.1))
 | none => []
section
variable {ks : List Fr} {Q : Exit -> St -> Prop} {σ : St} {ops : Array Oper} {os : List Oper} {L : List (List Ky × List Ky)} {d : Nat} {t : TypeId} {ty : TypeId} {ps : String} {af : Array Edge} {len : Nat} {parts : Array (Nat × Operand)} {s y : Operand}
theorem zb7 (h : zam (blD P σ t len parts) fun r => σ.ev (d * 32) = none /\ (r.2.map (·.1)).Nodup)
  (k : exd P ops os (L ++ [(zap (parts.toList.map (·.2)) ++ (rK (qb1 (zhv P (σ.get P) t len parts)) ++ [(2, d * 32)]), dK (some d) ++ eK (blK d (blD P σ t len parts)))]) ks Q ((σ.bl d (blD P σ t len parts)).put (some d) (.one (.ow (d * 32) 0)))) :
  exd P ops (⟨some d, .buildSlice t len parts, ty, ps, af, none⟩ :: os) L ks Q σ := by
 obtain ⟨⟨x, cons⟩, h1, h2, h3⟩ := zal h
 rw [h1] at k
 unfold blD at h1
 obtain ⟨p, e1, h1⟩ := Option.bind_eq_some_iff.1 h1
 obtain ⟨q, e2, h1⟩ := Option.map_eq_some_iff.1 h1
 simp only [Prod.mk.injEq] at h1
 obtain ⟨rfl, rfl⟩ := h1
 rw [e1] at k
 exact qgd ⟨e1, e2, h2, h3⟩ k
theorem zlk (dp2 : Bool) (h : zam (apV P σ d t s y dp2) fun r => r.1) (k : exd P ops os (L ++ [(zap [s, y] ++ apKs (apV P σ d t s y dp2), dK (some d) ++ apKs (apV P σ d t s y dp2))]) ks Q (σ.apV d (apV P σ d t s y dp2))) :
  exd P ops (⟨some d, .call ⟨.builtin .append, #[s, y], #[t, t]⟩, ty, ps, af, none⟩ :: os) L ks Q σ := by
 obtain ⟨⟨p, e, x, cons⟩, h1, h2⟩ := zal h
 rw [h1] at k
 unfold Go.Proofs.YtaaniggpnljckaaGreat.apV at h1
 split at h1
 ·rename_i e0 gn e2 gn2 hs hy
  obtain ⟨x0, k1, h3⟩ := Option.bind_eq_some_iff.1 h1
  obtain ⟨z, k2, h4⟩ := Option.bind_eq_some_iff.1 h3
  clear h1 h3
  by_cases hc : x0.gen = gn /\ x0.on = true /\ z.gen = gn2 /\ z.on = true /\ z.sz = x0.sz /\ e2 ≠ e0
  ·rw [if_pos hc] at h4
   obtain ⟨rfl, c2, rfl, c4, c5, c6⟩ := hc
   simp only [Option.some.injEq, Prod.mk.injEq] at h4
   obtain ⟨rfl, rfl, rfl, rfl⟩ := h4
   obtain ⟨dp, sz, rows, gn, on⟩ := x0
   obtain ⟨dp2, sz2, rows2, gn2, on2⟩ := z
   simp only at c2 c4 c5
   subst c2 c4 c5
   exact dApOO ⟨hs, qcz hy, k1, k2, c6, rfl⟩ h2.1 h2.2 k
  ·rw [if_neg hc] at h4; cases h4
 ·rename_i e0 gn sz rows2 hs hy
  obtain ⟨x0, k1, h4⟩ := Option.bind_eq_some_iff.1 h1
  clear h1
  by_cases hc : x0.gen = gn /\ x0.on = true /\ sz = x0.sz
  ·rw [if_pos hc] at h4
   obtain ⟨rfl, c2, rfl⟩ := hc
   simp only [Option.some.injEq, Prod.mk.injEq] at h4
   obtain ⟨rfl, rfl, rfl, rfl⟩ := h4
   obtain ⟨dp, sz, rows, gn, on⟩ := x0
   simp only at c2
   subst c2
   exact dApOT dp2 ⟨hs, hy, k1⟩ (fun hd => zhz (h2.2.2 hd)) h2.1 h2.2.1 k
  ·rw [if_neg hc] at h4; cases h4
 ·rename_i z0 e2 gn2 hs hy
  obtain ⟨z, k2, h4⟩ := Option.bind_eq_some_iff.1 h1
  clear h1
  by_cases hc : z.gen = gn2 /\ z.on = true /\ e2 ≠ d * 32
  ·rw [if_pos hc] at h4
   obtain ⟨rfl, c2, c3⟩ := hc
   simp only [Option.some.injEq, Prod.mk.injEq] at h4
   obtain ⟨rfl, rfl, rfl, rfl⟩ := h4
   obtain ⟨dp2, sz2, rows2, gn2, on2⟩ := z
   simp only at c2
   subst c2
   exact dApNO ⟨hs, qcz hy, h2.2.2, k2, c3⟩ h2.1 h2.2.1 k
  ·rw [if_neg hc] at h4; cases h4
 ·rename_i z0 sz rows2 hs hy
  simp only [Option.some.injEq, Prod.mk.injEq] at h1
  obtain ⟨rfl, rfl, rfl, rfl⟩ := h1
  exact dApNT dp2 ⟨hs, hy, h2.2.2.2⟩ (fun hd => zhz (h2.2.2.1 hd)) h2.1 h2.2.1 k
 ·cases h1
end
def St.pinE (σ : St) (e : Nat) (vs : Nat -> Nat -> Value) : St := ⟨σ.sl, σ.bx, upd σ.ev e ((σ.ev e).map fun x => ⟨x.deep, x.sz, zfr vs 0 x.rows, x.gen, x.on⟩)⟩
attribute [go_sem] qb1 blK apKs St.pinE
end Go.Proofs.YtaaniggpnljckaaGreat
namespace Go.Proofs.YtaaniggpnljckaaGreat
set_option linter.unusedSimpArgs false
set_option linter.unusedVariables false
set_option linter.unusedSectionVars false
set_option maxRecDepth 4000
open Go.RowKit
variable {P : Program}
theorem zz6 {ops : Array Oper} {K : St -> Prop} {n0 : Nat -> Prop} {N : Nat} {Q : Exit -> Act -> World -> Prop} {K' : Act -> World -> Prop} {i : Nat} (hlt : i < ops.size) {σ : St} {g : Gh} {a : Act} {w : World} (h : exG P ops ops[i] σ K) (hr : Rel n0 N σ g a w) (hn : LtK n0 w) (hdi : ∀ d, ops[i].dst = some d -> d < N)
  (next : ∀ σ' a' w', (∃ g', Rel n0 N σ' g' a' w' /\ Bk n0 w w' /\ g'.A0 = g.A0 /\ g'.R0 = g.R0) -> K σ' -> K' a' w') : wpOp P ops Q i K' a w := by
 have ho : ops[i]? = some ops[i] := by simp [hlt]
 have run : ∀ σ0, σ0 = σ -> zbx P ops[i] σ0 K -> ops[i].wp P a w K' Q := fun σ0 e0 h1 => by
  subst e0
  exact zb9 (fun a' w' ⟨σ', g', h0, hh⟩ => next σ' a' w' ⟨g', hh⟩ h0) (zdu h1 n0 N g a w hr hn hdi)
 unfold wpOp
 simp only [ho]
 unfold exG at h
 split at h
 ·rename_i hg
  have : Region.wanted ops[i] (yielded ops a.tmps) = true := by simp [Region.wanted, hg]
  rw [if_pos this]
  exact Or.inl (run σ rfl h)
 ·rename_i j want hg
  split at h
  ·rename_i d hdj
   split at h
   ·rename_i c hc
    have hv := hr.slots d
    rw [hc] at hv
    simp only [VR, CR, zai] at hv
    have hy : yielded ops a.tmps j = some c := by
     unfold yielded
     rw [hdj]
     simp only [Option.bind_some]
     cases ht : a.tmps[d]? with
     | none => rw [Array.getD_eq_getD_getElem?, ht] at hv; exact absurd hv (g.R0.nb _ _)
     | some u => rw [Array.getD_eq_getD_getElem?, ht] at hv; simp only [Option.getD_some] at hv; subst hv; rfl
    have hw : Region.wanted ops[i] (yielded ops a.tmps) = (c == want) := by
     unfold Region.wanted
     rw [hg]
     simp only [hy]
     cases c <;> cases want <;> rfl
    rw [hw]
    by_cases hcw : c = want
    ·subst hcw
     simp only [beq_self_eq_true, if_true]
     exact Or.inl (run _ (zez hc) (h.1 rfl))
    ·have hne : (c == want) = false := by simpa using hcw
     rw [hne]
     simp only [Bool.false_eq_true, if_false]
     have hnot : c = !want := by cases c <;> cases want <;> simp_all
     have hh := h.2 hnot
     rw [<- hnot, zez hc] at hh
     exact next _ _ _ ⟨g, hr.put _ (x := .tup []) ⟨[], rfl, rfl⟩ hdi, Bk.refl _ _, rfl, rfl⟩ hh
   ·rename_i xs hc
    have hv := hr.slots d
    rw [hc] at hv
    obtain ⟨vs, hv, _⟩ := hv
    have hy : yielded ops a.tmps j = none := by
     unfold yielded
     rw [hdj]
     simp only [Option.bind_some]
     cases ht : a.tmps[d]? with
     | none => rfl
     | some u => rw [Array.getD_eq_getD_getElem?, ht] at hv; simp only [Option.getD_some] at hv; subst hv; rfl
    have hw : Region.wanted ops[i] (yielded ops a.tmps) = false := by
     unfold Region.wanted
     rw [hg]
     simp only [hy]
     rfl
    rw [hw]
    simp only [Bool.false_eq_true, if_false]
    exact next _ _ _ ⟨g, hr.put _ (x := .tup []) ⟨[], rfl, rfl⟩ hdi, Bk.refl _ _, rfl, rfl⟩ h
   ·exact h.elim
  ·exact h.elim
def zsa (ops : Array Oper) (L : List (List Ky × List Ky)) (m : Nat) : Bool :=
 let b := Region.before ops
 decide (m <= ops.size) && (List.range ops.size).all fun j =>
  ((ops.getD j default).after.all fun e => !Region.binds .any e || decide (e.on < j)) &&
  ((List.range ops.size).all fun i => !(b.getD j 0).testBit i || (ops.getD j default).after.any fun e => Region.binds .any e && (e.on == i || (b.getD e.on 0).testBit i)) &&
  ((List.range j).all fun i => (b.getD j 0).testBit i || (decide (j < m) && ((L.getD i ([], [])).2.all fun k => !(L.getD j ([], [])).1.contains k && !(L.getD j ([], [])).2.contains k) && (L.getD i ([], [])).1.all fun k => !(L.getD j ([], [])).2.contains k))
theorem zs6 {ops : Array Oper} {σs : Nat -> St} {L : List (List Ky × List Ky)} {n0 : Nat -> Prop} {N : Nat} {w0 : World} {A0 : (Nat -> Prop) × RP} {Q : Exit -> Act -> World -> Prop} {K : St -> Prop} {m : Nat}
  (hL : ∀ i (h : i < ops.size), i < m -> Loc P ops ops[i] (L.getD i ([], [])).1 (L.getD i ([], [])).2 (σs i) (σs (i + 1))) (hord : zsa ops L m = true) (hdst : ∀ o ∈ ops, ∀ d, o.dst = some d -> d < N)
  (hT : zbj P ops (ops.toList.drop m) (σs m) K) (hQ : ∀ σ g a w, K σ -> Rel n0 N σ g a w -> LtK n0 w -> Bk n0 w0 w -> (g.A0, g.R0) = A0 -> Q .normal a w) :
  ∀ (fuel : Nat) (listed : Array Bool) (g : Gh) (a : Act) (w : World), listed.size = ops.size -> cnt (fun i => listed.getD i false) ops.size = fuel →
   (∀ j (h : j < ops.size), listed.getD j false = true -> ∀ e ∈ ops[j].after, Region.binds .any e = true -> listed.getD e.on false = true) -> (∀ j, m <= j -> listed.getD j false = false) →
   Rel n0 N (Fp σs (fun i => L.getD i ([], [])) (fun i => listed.getD i false) m) g a w -> LtK n0 w -> Bk n0 w0 w -> (g.A0, g.R0) = A0 -> wpAny P .any ops Q fuel listed a w := by
 have hget : ∀ j (h : j < ops.size), ops.getD j default = ops[j] := fun j h => by simp [Array.getD, h]
 unfold zsa at hord
 rw [Bool.and_eq_true] at hord
 obtain ⟨hm, hord⟩ := hord
 have hm : m <= ops.size := by simpa using hm
 have hok : ∀ i, i < m -> okK (L.getD i ([], [])).2 = true := fun i h => (hL i (by omega) h).1
 have hRk : ∀ i, i < m -> okK (L.getD i ([], [])).1 = true := fun i h => (hL i (by omega) h).2.1
 have hoff : ∀ i, i < m -> ∀ k : Ky, k.1 < 3 -> k ∉ (L.getD i ([], [])).2 -> za0 (σs i) (σs (i + 1)) k := fun i h => (hL i (by omega) h).2.2.1
 simp only [List.all_eq_true, List.mem_range, Bool.and_eq_true] at hord
 have hlt : ∀ j (h : j < ops.size), ∀ e ∈ ops[j].after, Region.binds .any e = true -> e.on < j := fun j h e he hb => by
  have := (hord j h).1.1
  rw [hget j h] at this
  have := (Array.all_eq_true_iff_forall_mem.1 this) e he
  simpa [hb] using this
 have hbef : ∀ j (h : j < ops.size), ∀ i, i < ops.size -> ((Region.before ops).getD j 0).testBit i = true -> ∃ e ∈ ops[j].after, Region.binds .any e = true /\ (e.on = i \/ ((Region.before ops).getD e.on 0).testBit i = true) := fun j h i hi hb => by
  have := (hord j h).1.2 i hi
  rw [hb, hget j h] at this
  simp only [Bool.not_true, Bool.false_or] at this
  obtain ⟨e, he, h1⟩ := Array.any_eq_true'.1 this
  simp only [Bool.and_eq_true, Bool.or_eq_true, beq_iff_eq] at h1
  exact ⟨e, he, h1.1, h1.2⟩
 have hdis : ∀ i j, i < j -> j < m -> ((Region.before ops).getD j 0).testBit i = false -> (∀ k ∈ (L.getD i ([], [])).2, k ∉ (L.getD j ([], [])).1 /\ k ∉ (L.getD j ([], [])).2) /\ ∀ k ∈ (L.getD i ([], [])).1, k ∉ (L.getD j ([], [])).2 := fun i j hij hj hb => by
  have := (hord j (by omega)).2 i hij
  rw [hb] at this
  simp only [Bool.false_or, Bool.and_eq_true, List.all_eq_true, Bool.not_eq_true', List.contains_eq_mem, decide_eq_false_iff_not] at this
  exact ⟨fun k hk => this.1.2 k hk, fun k hk => this.2 k hk⟩
 have hchain : ∀ i j, i < j -> j < ops.size -> m <= j -> ((Region.before ops).getD j 0).testBit i = true := fun i j hij hj hmj => by
  have := (hord j hj).2 i hij
  cases hb : ((Region.before ops).getD j 0).testBit i with
  | true => rfl
  | false =>
   rw [hb] at this
   simp only [Bool.false_or, Bool.and_eq_true, decide_eq_true_eq] at this
   omega
 have hclosed : ∀ listed : Array Bool, (∀ j (h : j < ops.size), listed.getD j false = true -> ∀ e ∈ ops[j].after, Region.binds .any e = true -> listed.getD e.on false = true) -> ∀ j (h : j < ops.size), listed.getD j false = true -> ∀ i, i < ops.size -> ((Region.before ops).getD j 0).testBit i = true -> listed.getD i false = true := by
  intro listed hcl j
  induction j using Nat.strongRecOn with
  | _ j ihj =>
   intro h hl i hi hbi
   obtain ⟨e, he, h1, h2⟩ := hbef j h i hi hbi
   have hle := hcl j h hl e he h1
   have hlt' := hlt j h e he h1
   rcases h2 with rfl | h2
   ·exact hle
   ·exact ihj e.on hlt' (by omega) hle i hi h2
 have hready : ∀ (listed : Array Bool), listed.size = ops.size -> ∀ i, i ∈ Region.ready .any ops listed -> ∃ hi : i < ops.size, listed.getD i false = false /\ ∀ e ∈ ops[i].after, Region.binds .any e = true -> listed.getD e.on false = true := fun listed hsz i hi => by
  unfold Region.ready at hi
  rw [List.mem_filter] at hi
  obtain ⟨hi1, hi2⟩ := hi
  have hi' := List.mem_range.1 hi1
  rw [Array.getElem?_eq_getElem hi'] at hi2
  simp only [Option.map_some, Option.getD_some, Bool.and_eq_true, Bool.not_eq_true'] at hi2
  obtain ⟨hl0, hafter⟩ := hi2
  refine ⟨hi', ?_, fun e he hbd => ?_⟩
  ·simp only [Array.getD_eq_getD_getElem?] at hl0 ⊢
   rw [Array.getElem?_eq_getElem (by omega)] at hl0 ⊢
   exact hl0
  ·have := (Array.all_eq_true_iff_forall_mem.1 hafter) e he
   simpa [hbd] using this
 have hsome : ∀ (listed : Array Bool), listed.size = ops.size -> Region.ready .any ops listed = [] -> cnt (fun i => listed.getD i false) ops.size = 0 := fun listed hsz hr => by
  have : ∀ j, j < ops.size -> listed.getD j false = true := by
   intro j
   induction j using Nat.strongRecOn with
   | _ j ihj =>
    intro hj
    cases hl : listed.getD j false with
    | true => rfl
    | false =>
     exfalso
     have hmem : j ∈ Region.ready .any ops listed := by
      unfold Region.ready
      rw [List.mem_filter]
      refine ⟨List.mem_range.2 hj, ?_⟩
      have hl' : listed.getD j true = false := by
       simp only [Array.getD_eq_getD_getElem?] at hl ⊢
       rw [Array.getElem?_eq_getElem (by omega)] at hl ⊢
       exact hl
      rw [hl', Array.getElem?_eq_getElem hj]
      simp only [Bool.not_false, Bool.true_and, Option.map_some, Option.getD_some]
      rw [Array.all_eq_true_iff_forall_mem]
      intro e he
      cases hbd : Region.binds .any e with
      | false => rfl
      | true => simpa using ihj e.on (hlt j hj e he hbd) (by have := hlt j hj e he hbd; omega)
     rw [hr] at hmem
     exact absurd hmem (by simp)
  have : ∀ k, k <= ops.size -> cnt (fun i => listed.getD i false) k = 0 := by
   intro k
   induction k with
   | zero => intro _; rfl
   | succ k ihk => intro hk; unfold cnt; rw [if_pos (this k (by omega)), ihk (by omega)]
  exact this _ (Nat.le_refl _)
 have hset : ∀ (listed : Array Bool) (i : Nat), i < listed.size -> ∀ j, (listed.setIfInBounds i true).getD j false = if j = i then true else listed.getD j false := fun listed i hi j => by
  simp only [Array.getD_eq_getD_getElem?, Array.getElem?_setIfInBounds]
  by_cases hji : j = i
  ·subst hji; rw [if_pos rfl, if_pos hi, if_pos rfl]; rfl
  ·rw [if_neg (fun h => hji h.symm), if_neg hji]
 have hnone : ∀ (listed : Array Bool), listed.size = ops.size -> (∀ j, j < ops.size -> listed.getD j false = true) -> Region.ready .any ops listed = [] := fun listed hsz hall => by
  unfold Region.ready
  rw [List.filter_eq_nil_iff]
  intro i hi
  have hi' := List.mem_range.1 hi
  have := hall i hi'
  simp only [Array.getD_eq_getD_getElem?] at this ⊢
  rw [Array.getElem?_eq_getElem (by omega)] at this ⊢
  simp only [Option.getD_some] at this ⊢
  simp [this]
 have tail : ∀ (k j : Nat) (listed : Array Bool) (σ : St) (g : Gh) (a : Act) (w : World), j + k = ops.size -> m <= j -> listed.size = ops.size -> (∀ i, i < ops.size -> listed.getD i false = decide (i < j)) -> zbj P ops (ops.toList.drop j) σ K -> Rel n0 N σ g a w -> LtK n0 w -> Bk n0 w0 w -> (g.A0, g.R0) = A0 -> wpAny P .any ops Q k listed a w := by
  intro k
  induction k with
  | zero =>
   intro j listed σ g a w hjk hmj hsz hls h hrel hn hb hA
   have : ops.toList.drop j = [] := List.drop_of_length_le (by simp; omega)
   rw [this] at h
   exact ⟨hnone listed hsz fun i hi => by rw [hls i hi]; simp; omega, hQ σ g a w h hrel hn hb hA⟩
  | succ k ih =>
   intro j listed σ g a w hjk hmj hsz hls h hrel hn hb hA
   have hj : j < ops.size := by omega
   refine ⟨fun hr => ?_, fun i hi => ?_⟩
   ·exfalso
    have hz : listed.getD j false = true := zhe _ (hsome listed hsz hr) j hj
    rw [hls j hj] at hz
    simp at hz
   ·obtain ⟨hi', hl, hdue⟩ := hready listed hsz i hi
    have hij : i = j := by
     rcases Nat.lt_trichotomy i j with h1 | h1 | h1
     ·rw [hls i hi'] at hl; simp at hl; omega
     ·exact h1
     ·exfalso
      obtain ⟨e, he, k1, k2⟩ := hbef i hi' j hj (hchain j i h1 hi' (by omega))
      have hle := hdue e he k1
      have hel := hlt i hi' e he k1
      rw [hls e.on (by omega)] at hle
      have hle : e.on < j := by simpa using hle
      rcases k2 with k2 | k2
      ·omega
      ·have : ∀ x, x < ops.size -> ∀ y, y < ops.size -> ((Region.before ops).getD x 0).testBit y = true -> y < x := by
        intro x
        induction x using Nat.strongRecOn with
        | _ x ihx =>
         intro hx y hy hbxy
         obtain ⟨e', he', q1, q2⟩ := hbef x hx y hy hbxy
         have := hlt x hx e' he' q1
         rcases q2 with rfl | q2
         ·exact this
         ·have := ihx e'.on this (by omega) y hy q2; omega
       have := this e.on (by omega) j hj k2
       omega
    subst hij
    have hcons : ops.toList.drop i = ops[i] :: ops.toList.drop (i + 1) := by
     rw [List.drop_eq_getElem_cons (by simpa using hi')]; rfl
    rw [hcons] at h
    refine zz6 hi' (K := fun σ' => zbj P ops (ops.toList.drop (i + 1)) σ' K) h hrel hn (hdst _ (Array.getElem_mem hi')) fun σ' a' w' hh hK => ?_
    obtain ⟨g', k1, k2, k3, k4⟩ := hh
    refine ih (i + 1) _ σ' g' a' w' (by omega) (by omega) (by simpa using hsz) (fun x hx => ?_) hK k1 (hn.mono k2.size) (hb.trans k2) (by rw [k3, k4]; exact hA)
    rw [hset listed i (by omega), hls x hx]
    by_cases hxi : x = i
    ·subst hxi; simp
    ·rw [if_neg hxi]
     congr 1
     simp only [eq_iff_iff]
     omega
 intro fuel
 induction fuel with
 | zero =>
  intro listed g a w hsz hc hcl hno hrel hn hb hA
  have hall := zhe _ hc
  have hme : m = ops.size := by
   rcases Nat.lt_or_ge m ops.size with h | h
   ·have h1 := hall m h
    rw [hno m (Nat.le_refl _)] at h1; cases h1
   ·omega
  refine ⟨hnone listed hsz hall, ?_⟩
  rw [ziw hok hoff m (Nat.le_refl _) fun j hj => hall j (by omega)] at hrel
  have hd : ops.toList.drop m = [] := List.drop_of_length_le (by simp; omega)
  rw [hd] at hT
  exact hQ _ g a w hT hrel hn hb hA
 | succ fuel ih =>
  intro listed g a w hsz hc hcl hno hrel hn hb hA
  have hbb := hclosed listed hcl
  refine ⟨fun hr => ?_, fun i hi => ?_⟩
  ·exfalso
   have := hsome listed hsz hr
   omega
  ·obtain ⟨hi', hl, hdue⟩ := hready listed hsz i hi
   have h1 : ∀ j, j < ops.size -> ((Region.before ops).getD i 0).testBit j = true -> listed.getD j false = true := fun j hj hbj => by
    obtain ⟨e, he, k1, k2⟩ := hbef i hi' j hj hbj
    have hle := hdue e he k1
    have hlt' := hlt i hi' e he k1
    rcases k2 with rfl | k2
    ·exact hle
    ·exact hbb e.on (by omega) hle j hj k2
   by_cases him : i < m
   ·have h2 : ∀ j, j < m -> listed.getD j false = true -> ((Region.before ops).getD j 0).testBit i = true -> listed.getD i false = true := fun j hj hlj hbj => hbb j (by omega) hlj i hi' hbj
    have hset' := hset listed i (by omega)
    obtain ⟨_, _, _, hstep⟩ := hL i hi' him
    have hG := hstep _ (fun k hk => zuj (σs := σs) (RW := fun i => L.getD i ([], [])) (b := fun j i => ((Region.before ops).getD j 0).testBit i) (p := fun i => listed.getD i false) hok hoff hRk hdis him hl (fun j hj hb => h1 j (by omega) hb) h2 hk)
    have hw := zpt (σs := σs) (RW := fun i => L.getD i ([], [])) (b := fun j i => ((Region.before ops).getD j 0).testBit i) (p := fun i => listed.getD i false) hok hdis him hl (fun j hj hb => h1 j (by omega) hb) h2 (p' := fun j => (listed.setIfInBounds i true).getD j false) hset'
    have hcnt := zpc (p := fun i => listed.getD i false) (q := fun j => (listed.setIfInBounds i true).getD j false) hl hset' ops.size hi'
    have hG' := hG n0 N g a w hrel hn (hdst _ (Array.getElem_mem hi'))
    rw [<- hw] at hG'
    have next : ∀ a' w', (∃ g', Rel n0 N (Fp σs (fun i => L.getD i ([], [])) (fun j => (listed.setIfInBounds i true).getD j false) m) g' a' w' /\ Bk n0 w w' /\ g'.A0 = g.A0 /\ g'.R0 = g.R0) -> wpAny P .any ops Q fuel (listed.setIfInBounds i true) a' w' := by
     rintro a' w' ⟨g', k1, k2, k3, k4⟩
     refine ih _ g' a' w' (by simpa using hsz) (by omega) (fun j hj hlj e he hbd => ?_) (fun j hj => by rw [hset', if_neg (by omega)]; exact hno j hj) k1 (hn.mono k2.size) (hb.trans k2) (by rw [k3, k4]; exact hA)
     rw [hset'] at hlj ⊢
     by_cases heo : e.on = i
     ·rw [if_pos heo]
     ·rw [if_neg heo]
      by_cases hji : j = i
      ·subst hji; exact hdue e he hbd
      ·rw [if_neg hji] at hlj; exact hcl j hj hlj e he hbd
    unfold wpOp
    rw [Array.getElem?_eq_getElem hi']
    simp only
    split
    ·rename_i hwd
     rw [if_pos hwd] at hG'
     exact Or.inl (zb9 next hG')
    ·rename_i hwd
     rw [if_neg hwd] at hG'
     obtain ⟨g', k1, k2, k3⟩ := hG'
     exact next _ _ ⟨g', k1, Bk.refl _ _, k2, k3⟩
   ·-- the chain begins
    have hmi : i = m := by
     rcases Nat.lt_trichotomy i m with h3 | h3 | h3
     ·omega
     ·exact h3
     ·exfalso
      have := h1 m (by omega) (hchain m i h3 hi' (by omega))
      rw [hno m (Nat.le_refl _)] at this; cases this
    subst hmi
    have hall : ∀ j, j < i -> listed.getD j false = true := fun j hj => h1 j (by omega) (hchain j i hj hi' (Nat.le_refl _))
    rw [ziw hok hoff i (Nat.le_refl _) hall] at hrel
    have hls : ∀ x, x < ops.size -> listed.getD x false = decide (x < i) := fun x hx => by
     by_cases hxi : x < i
     ·rw [hall x hxi]; simp [hxi]
     ·rw [hno x (by omega)]; simp [hxi]
    have hcnt : fuel + 1 = ops.size - i := by
     rw [<- hc]
     have : ∀ n, n <= ops.size -> cnt (fun i => listed.getD i false) n = n - i := by
      intro n
      induction n with
      | zero => intro _; simp [cnt]
      | succ n ihn =>
       intro hn'
       unfold cnt
       rw [ihn (by omega), hls n (by omega)]
       by_cases hni : n < i
       ·rw [if_pos (by simpa using hni)]; omega
       ·rw [if_neg (by simpa using hni)]; omega
     exact this _ (Nat.le_refl _)
    have := tail (fuel + 1) i listed (σs i) g a w (by omega) (Nat.le_refl _) hsz hls hT hrel hn hb hA
    exact this.2 i hi
def zin (ops : Array Oper) (m : Nat) : Bool :=
 let b := Region.before ops
 decide (m <= ops.size) && (List.range ops.size).all fun j => decide (j < m) || (List.range j).all fun i => (b.getD j 0).testBit i
theorem zwt {ops : Array Oper} {L : List (List Ky × List Ky)} {m : Nat} (h1 : zn2 ops L = true) (h2 : zin ops m = true) : zsa ops L m = true := by
 unfold zn2 at h1
 unfold zin at h2
 unfold zsa
 simp only [List.all_eq_true, List.mem_range, Bool.and_eq_true, Bool.or_eq_true] at h1 h2 ⊢
 refine ⟨h2.1, fun j hj => ⟨⟨(h1 j hj).1.1, (h1 j hj).1.2⟩, fun i hi => ?_⟩⟩
 rcases (h1 j hj).2 i hi with h3 | h3
 ·exact Or.inl h3
 ·rcases h2.2 j hj with h4 | h4
  ·exact Or.inr ⟨⟨h4, h3.1⟩, h3.2⟩
  ·exact Or.inl (h4 i hi)
theorem zfl {ops : Array Oper} {K : St -> Prop} {m : Nat} (hm : m <= ops.size) : ∀ (os : List Oper) (i : Nat) (L : List (List Ky × List Ky)) (σs : Nat -> St), os = (ops.toList.take m).drop i -> i <= m -> L.length = i →
  (∀ j (h : j < ops.size), j < i -> Loc P ops ops[j] (L.getD j ([], [])).1 (L.getD j ([], [])).2 (σs j) (σs (j + 1))) -> ze3 P ops os L (σs i) K →
  ∃ (L' : List (List Ky × List Ky)) (σs' : Nat -> St), σs' 0 = σs 0 /\ (∀ j (h : j < ops.size), j < m -> Loc P ops ops[j] (L'.getD j ([], [])).1 (L'.getD j ([], [])).2 (σs' j) (σs' (j + 1))) /\ zn2 ops L' = true /\ K (σs' m)
 | [], i, L, σs, ho, hi, hl, hloc, h => by
  have hie : i = m := by
   have := congrArg List.length ho
   simp at this; omega
  subst hie
  exact ⟨L, σs, rfl, fun j hj hji => hloc j hj hji, h.1, h.2⟩
 | o :: os, i, L, σs, ho, hi, hl, hloc, h => by
  have hlm : i < m := by
   have := congrArg List.length ho
   simp at this; omega
  have hlt : i < ops.size := by omega
  have hcons : (ops.toList.take m).drop i = ops[i] :: (ops.toList.take m).drop (i + 1) := by
   rw [List.drop_eq_getElem_cons (by simp; omega)]
   simp
  rw [hcons] at ho
  obtain ⟨rfl, hos⟩ := List.cons.inj ho
  obtain ⟨R, W, σ', h1, h2⟩ := zjk h
  have := zfl hm os (i + 1) (L ++ [(R, W)]) (fun j => if j <= i then σs j else σ') hos (by omega) (by simp [hl]) (fun j hj hji => by
   by_cases hje : j = i
   ·subst hje
    have hg : (L ++ [(R, W)]).getD j ([], []) = (R, W) := by simp [List.getD, <- hl]
    rw [hg, if_pos (Nat.le_refl _), if_neg (by omega)]
    exact h1
   ·have hg : (L ++ [(R, W)]).getD j ([], []) = L.getD j ([], []) := by
     simp only [List.getD_eq_getElem?_getD]; rw [List.getElem?_append_left (by omega)]
    rw [hg, if_pos (by omega), if_pos (by omega)]
    exact hloc j hj (by omega)) (by rw [if_neg (by omega)]; exact h2)
  simpa using this
def qgg (P : Program) (ops : Array Oper) (m : Nat) (ks : List Fr) (Q : Exit -> St -> Prop) : Exit -> St -> Prop
 | .normal, σ => exo P ops (ops.toList.drop m) ks Q σ
 | _, _ => False
theorem zgz (ops : Array Oper) (m : Nat) (ks : List Fr) (Q : Exit -> St -> Prop) (σ : St) : qgg P ops m ks Q .normal σ = exo P ops (ops.toList.drop m) ks Q σ := rfl
theorem drawnT (m : Nat) {id : Nat} {ops : Array Oper} {ks : List Fr} {Q : Exit -> St -> Prop} {σ : St} (hmx : P.follows .mixedOrders = true) (hch : zin ops m = true) (h : exd P ops (ops.toList.take m) [] [] (qgg P ops m ks Q) σ) : ex P (.region id ops true) ks Q σ := by
 show zb4 P id ops σ _
 intro n0 N g a w hR hn hd
 have hm : m <= ops.size := by unfold zin at hch; rw [Bool.and_eq_true] at hch; simpa using hch.1
 obtain ⟨L, σs, h0, hloc, hord, hK⟩ := zfl hm (ops.toList.take m) 0 [] (fun _ => σ) rfl (Nat.zero_le _) rfl (fun j _ hj => by omega) h
 refine wp_region_any hmx ?_
 have hb : Below w.heap.size w { w with drawn := w.drawn + 1 } := ⟨rfl, rfl, rfl, Nat.le_refl _, fun _ _ => rfl⟩
 have hR' : Rel n0 N (σs 0) g a { w with drawn := w.drawn + 1 } := by
  rw [h0]
  exact hR.after hn hb (New.refl σ g (w.heap.size <= ·) _ hR.slc)
 have hF : Fp σs (fun i => L.getD i ([], [])) (fun i => (Array.replicate ops.size false).getD i false) m = σs 0 := by
  have hp : ∀ i, (Array.replicate ops.size false).getD i false = false := fun i => by
   simp only [Array.getD_eq_getD_getElem?, Array.getElem?_replicate]; split <;> rfl
  have : ∀ m, Fp σs (fun i => L.getD i ([], [])) (fun i => (Array.replicate ops.size false).getD i false) m = σs 0 := by
   intro m
   induction m with
   | zero => rfl
   | succ m ih => unfold Fp; rw [hp, if_neg (by simp)]; exact ih
  exact this _
 have hcnt : cnt (fun i => (Array.replicate ops.size false).getD i false) ops.size = ops.size := by
  have hp : ∀ i, (Array.replicate ops.size false).getD i false = false := fun i => by
   simp only [Array.getD_eq_getD_getElem?, Array.getElem?_replicate]; split <;> rfl
  have : ∀ m, cnt (fun i => (Array.replicate ops.size false).getD i false) m = m := by
   intro m
   induction m with
   | zero => rfl
   | succ m ih => unfold cnt; rw [hp, if_neg (by simp), ih]; omega
  exact this _
 refine zs6 (w0 := w) (A0 := (g.A0, g.R0)) (K := ztv P ks Q .normal) hloc (zwt hord hch) hd hK (fun σ' g' a' w' kk k1 k2 k3 k4 => ⟨rfl, σ', g', kk, k1, k2, k3, (Prod.mk.inj k4).1, (Prod.mk.inj k4).2⟩) ops.size _ g a _ (by simp) hcnt (fun j h hl => ?_) (fun j _ => ?_) (by rw [hF]; exact hR') (hn.mono (Nat.le_refl _)) (Bk.of_below hb hn) rfl
 ·simp only [Array.getD_eq_getD_getElem?, Array.getElem?_replicate] at hl
  split at hl <;> cases hl
 ·simp only [Array.getD_eq_getD_getElem?, Array.getElem?_replicate]
  split <;> rfl
attribute [go_sem] zgz
end Go.Proofs.YtaaniggpnljckaaGreat
namespace Go.Proofs.YtaaniggpnljckaaGreat
set_option linter.unusedSimpArgs false
set_option linter.unusedVariables false
set_option linter.unusedSectionVars false
set_option maxRecDepth 4000
open Go.RowKit
variable {P : Program}
def PX (P : Program) (rs : List ResultVar) (res : List D) (σ : St) : Prop := ∃ pl, zam (zbh P σ rs) fun vs => gvA σ (fun _ => True) [] pl vs (res.map fun d => (true, d))
def PS (P : Program) (rs : List ResultVar) (res : List D) (e : Exit) (σ : St) : Prop := match e with
 | .normal => PF P rs res .normal σ \/ PX P rs res σ
 | .ret => PF P rs res .ret σ \/ PX P rs res σ
 | _ => False
theorem zgs {w : World} {A : Nat -> Prop} : ∀ {res : List D} {vs : List Value} {fp tp : List Nat}, zas w A (res.map fun d => (true, d)) vs fp tp -> GDs w res vs fp tp
 | [], _, _, _, h => h
 | d :: ds, _, _, _, h => by
  obtain ⟨v, vs', f1, f2, t1, t2, rfl, rfl, rfl, h1, h2⟩ := h
  exact ⟨v, vs', f1, f2, t1, t2, rfl, rfl, rfl, h1, zgs h2⟩
theorem px_own {n0 : Nat -> Prop} {N : Nat} {σ : St} {g : Gh} {a : Act} {w : World} (hR : Rel n0 N σ g a w) {vs : List V} {res : List D} {pl : List (Nat × Nat × Nat)} (h : gvA σ (fun _ => True) [] pl vs (res.map fun d => (true, d))) {us : List Value} (hv : VRl σ g w vs us) :
  ∃ fp tp, GDs w res us fp tp /\ fp.Nodup /\ ∀ b ∈ fp, ∃ e, σ.On e /\ b ∈ g.φ e := by
 obtain ⟨B, hB⟩ := hR.fam
 obtain ⟨s, k1, k2, k3, k4⟩ := zea hR hB h hv
 rw [List.append_nil] at k4
 have hsp : s.Pairwise okP := (List.pairwise_reverse.1 (k4 List.Pairwise.nil)).imp fun h => h.symm
 obtain ⟨tp, k2⟩ := k2 [] (by simp)
 refine ⟨_, tp, zgs k2, zc2 hR hB k3 hsp, fun b hb => ?_⟩
 obtain ⟨x, hx, hm⟩ := List.mem_flatMap.1 hb
 exact ⟨x.1, k3 x hx, hB.sub x.1 x.2 b (k3 x hx) hm⟩
theorem qd9 {f : FuncId} {fn : Func} {c : Code} {args : List (Bool × D)} {res : List D} (hc : za8 P f) (hf : P.funcs[f]? = some fn) (hb : fn.body = some c) (hd : zcp fn.ntmps c = true) (hN : args.length <= fn.ntmps) (hs : zar args)
  (h : ∀ (w : World) (vs : List Value) (fp tp : List Nat), zas w (fun b => b < w.heap.size /\ b ∉ fp) args vs fp tp -> ∀ (g : Gh) (a : Act), Rel (fun b => b < w.heap.size /\ b ∉ fp) fn.ntmps (zci args) g a w -> (a.tmps = (⟨vs⟩ : Array Value) ++ Array.replicate (fn.ntmps - vs.length) undef /\ (g.A0, g.R0) = ((fun _ => True), RP.of fun b => b ∈ fp \/ w.heap.size <= b)) →
   ∃ σ0, ex P c [] (PS P fn.results.toList res) σ0 /\ Rel (fun b => b < w.heap.size /\ b ∉ fp) fn.ntmps σ0 g a w) : GC P f args res := by
 refine ⟨hc, fun w vs fp tp hv hn => ?_⟩
 refine calls_of_wp hf hb ?_
 have hv' : zas w (fun b => b < w.heap.size /\ True /\ b ∉ fp) args vs fp tp := zas.keepA (fun b hb => ⟨hb.1, trivial, hb.2⟩) hv
 obtain ⟨g, hg, hR⟩ := Rel.start (A0 := fun _ => True) (R0 := RP.of fun b => b ∈ fp \/ w.heap.size <= b) (N := fn.ntmps) hv' hn hs hN (fun _ _ => trivial) (fun b hb => ⟨trivial, Or.inl hb⟩) (fun b hb => ⟨trivial, by
  by_cases hlt : b < w.heap.size
  ·exact Or.inl (Classical.byContradiction fun h => hb ⟨hlt, h⟩)
  ·exact Or.inr (by omega)⟩)
 obtain ⟨σ0, hex, hR0⟩ := h w vs fp tp hv g _ hR ⟨rfl, hg⟩
 refine wp_mono (zbi (w0 := w) c σ0 _ hd hex g _ w hR0 (fun k hk => hk.1) (Bk.refl _ _) hg) fun e a' w' hq => ?_
 obtain ⟨σ', g', h1, h2, h3, h4, h5⟩ := hq
 have fin : ∀ {us : List Value} {v : Value}, (results fn a'.tmps).run P w' = .ok v w' -> v = zbk us -> (∃ fp' tp', GDs w' res us fp' tp' /\ fp'.Nodup /\ ∀ b ∈ fp', ∃ e, σ'.On e /\ b ∈ g'.φ e) -> ∃ v, (results fn a'.tmps).run P w' = .ok v w' /\ ∃ us fp' tp', Ending.returned v = .returned (zbk us) /\ GDs w' res us fp' tp' /\ fp'.Nodup /\ (∀ b ∈ fp', b ∈ fp \/ w.heap.size <= b) /\ Bk (fun k => k < w.heap.size /\ k ∉ fp) w w' := fun {us v} r1 rv ⟨fp', tp', o1, o2, o3⟩ => by
  refine ⟨_, r1, us, fp', tp', by rw [rv], o1, o2, fun b hb => ?_, h4⟩
  obtain ⟨e, l, m⟩ := o3 b hb
  have := (h2.ebase e l b m).2
  rw [(Prod.mk.inj h5).2] at this
  exact this
 have key : (zam (zbh P σ' fn.results.toList) (fun vs => zvq σ' [] vs res) \/ PX P fn.results.toList res σ') -> ∃ v, (results fn a'.tmps).run P w' = .ok v w' /\ ∃ us fp' tp', Ending.returned v = .returned (zbk us) /\ GDs w' res us fp' tp' /\ fp'.Nodup /\ (∀ b ∈ fp', b ∈ fp \/ w.heap.size <= b) /\ Bk (fun k => k < w.heap.size /\ k ∉ fp) w w' := fun hk => by
  rcases hk with hk | ⟨pl, hk⟩
  ·obtain ⟨vs, hvs, hk⟩ := zal hk
   obtain ⟨us, r1, r2⟩ := zbs h2 fn hvs
   obtain ⟨used, fp', tp', o1, o2⟩ := zdm h2 hk r2
   exact fin r1 rfl ⟨fp', tp', o1, o2.1, fun b hb => by obtain ⟨e, _, _, l, m⟩ := o2.2.1 b hb; exact ⟨e, l, m⟩⟩
  ·obtain ⟨vs, hvs, hk⟩ := zal hk
   obtain ⟨us, r1, r2⟩ := zbs h2 fn hvs
   exact fin r1 rfl (px_own h2 hk r2)
 cases e with
 | normal => exact ⟨h2.defers, key h1⟩
 | ret => exact ⟨h2.defers, key h1⟩
 | exit _ => exact h1.elim
 | goto _ => exact h1.elim
 | panic _ => exact h1.elim
 | outgrown => exact h1.elim
theorem qf4 (e m : Nat) {id : Nat} {ops : Array Oper} {ks : List Fr} {Q : Exit -> St -> Prop} {σ : St} (hmx : P.follows .mixedOrders = true) (hch : zin ops m = true) (he : zam (σ.ev e) fun y => y.deep = true /\ y.on = true) (h : ∀ vs, exd P ops (ops.toList.take m) [] [] (qgg P ops m ks Q) (σ.pinE e vs)) : ex P (.region id ops true) ks Q σ := by
 show zb4 P id ops σ _
 intro n0 N g a w hR hn hd
 obtain ⟨⟨dp, sz, rows, gn, on⟩, he, e1, e2⟩ := zal he
 simp only at e1 e2
 subst e1 e2
 obtain ⟨vs, hv⟩ := (zdl hR he).pins
 have hr := hR.reown hn he hv
 have e0 : σ.pinE e vs = σ.inp [(e, zfr vs 0 rows)] := by
  unfold St.pinE St.inp ztu ztu
  rw [he]; rfl
 rw [<- e0] at hr
 exact (drawnT m hmx hch (h vs) : zb4 P id ops _ _) n0 N g a w hr hn hd
theorem qax (p : Prop) : (p \/ True) = True := by simp
theorem qar (p : Prop) : (True \/ p) = True := by simp
theorem zvr {α : Type} (x : α) (xs : List α) (d : α) : (x :: xs).getD 0 d = x := rfl
theorem qbj {α : Type} (x y : α) (xs : List α) (d : α) : (x :: y :: xs).getD 1 d = y := rfl
attribute [go_sem] zvr qbj
attribute [go_sem] Bool.false_and Bool.and_false Bool.and_self
attribute [go_sem] PS qax qar
theorem zs5 (vs : Nat -> Nat -> Value) (i : Nat) (r : List T) (rs : List (List T)) : zfr vs i (r :: rs) = zzm (vs i) 0 r :: zfr vs (i + 1) rs := rfl
theorem zym (us : Nat -> Value) (j : Nat) (c : T) (cs : List T) : zzm us j (c :: cs) = pinC (us j) c :: zzm us (j + 1) cs := rfl
theorem qba (us : Nat -> Value) (j : Nat) : zzm us j [] = [] := rfl
theorem qg5 (v : Value) (sz : Nat) (rows : List (List T)) : pinC v (.sl sz rows) = .pin v (.sl sz rows) := rfl
theorem qbd (v : Value) (s : List UInt8) : pinC v (.str s) = .str s := rfl
attribute [go_sem] zs5 zym qba qg5 qbd zf3 List.length_append
theorem qfn (n : Nat) : ((n : Int) < 0) = False := by simp
attribute [go_sem] qfn List.set_cons_succ List.set_cons_zero
end Go.Proofs.YtaaniggpnljckaaGreat
namespace Go.Proofs.YtaaniggpnljckaaGreat
set_option linter.unusedSimpArgs false
set_option linter.unusedVariables false
set_option linter.unusedSectionVars false
set_option maxRecDepth 4000
open Go.RowKit
variable {P : Program}
def D.toN : D -> V
 | .one t => .one t.toN
 | .agg ts => .agg (ts.map T.toN)
def zfx : Nat -> List D -> Nat -> V
 | _, [] => fun _ => .one .any
 | k, d :: ds => upd (zfx (k + 1) ds) k d.toN
def ze8 (args : List D) : St := ⟨zfx 0 args, fun _ => none, fun _ => none⟩
theorem zh8 : ∀ (ds : List D) (k i : Nat), zfx k ds (k + i) = match ds[i]? with | some d => d.toN | none => .one .any
 | [], k, i => by simp [zfx]
 | d :: ds, k, 0 => by simp [zfx, upd]
 | d :: ds, k, i + 1 => by
  unfold zfx
  rw [zah _ _ (by omega), show k + (i + 1) = k + 1 + i by omega, zh8 ds (k + 1) i]
  simp
theorem qdu {σ : St} {g : Gh} {w : World} {A : Nat -> Prop} (hA : ∀ b, A b -> zbr σ g w b) {x : T} {v : Value} (h : zai w A x v) : CR σ g w x.toN v := by
 cases x <;> first | exact zai.keep (fun _ _ => rfl) (fun b hb => (hA b hb).1) _ v h | exact zai.keep (fun _ _ => rfl) hA _ v h
theorem zxg {σ : St} {g : Gh} {w : World} {A : Nat -> Prop} (hA : ∀ b, A b -> zbr σ g w b) : ∀ {ts : List T} {vs : List Value}, zad w A ts vs -> CRs σ g w (ts.map T.toN) vs
 | [], vs, h => by unfold zad at h; exact h
 | t :: ts, vs, h => by
  unfold zad at h
  obtain ⟨v, vs', rfl, h1, h2⟩ := h
  exact ⟨v, vs', rfl, qdu hA h1, zxg hA h2⟩
theorem zjb {σ : St} {g : Gh} {w : World} {A : Nat -> Prop} (hA : ∀ b, A b -> zbr σ g w b) {d : D} {v : Value} (h : zto w A d v) : VR σ g w d.toN v := by
 cases d with
 | one t => exact qdu hA h
 | agg ts => obtain ⟨a, h0, h1⟩ := h; exact ⟨a, h0, zxg hA h1⟩
theorem zba.at {w : World} {A : Nat -> Prop} : ∀ {ds : List D} {vs : List Value}, zba w A ds vs -> ∀ (i : Nat) d, ds[i]? = some d -> ∃ v, vs[i]? = some v /\ zto w A d v
 | [], _, _, i, d, h => by simp at h
 | d0 :: ds, vs, h, 0, d, hi => by
  obtain ⟨v, vs', rfl, h1, h2⟩ := h
  simp only [List.getElem?_cons_zero, Option.some.injEq] at hi
  subst hi; exact ⟨v, rfl, h1⟩
 | d0 :: ds, vs, h, i + 1, d, hi => by
  obtain ⟨v, vs', rfl, h1, h2⟩ := h
  simpa using zba.at h2 i d (by simpa using hi)
theorem zdf {w : World} {A : Nat -> Prop} : ∀ {ds : List D} {vs : List Value} {fp tp : List Nat}, zas w A (rd ds) vs fp tp -> zba w A ds vs /\ fp = [] /\ tp = []
 | [], _, _, _, h => ⟨h.1, h.2.1, h.2.2⟩
 | d :: ds, _, _, _, h => by
  obtain ⟨v, vs', rfl, h1, h2⟩ := h
  obtain ⟨k1, k2, k3⟩ := zdf h2
  exact ⟨⟨v, vs', rfl, h1, k1⟩, k2, k3⟩
theorem zup {args : List D} {w : World} {vs : List Value} {N : Nat} {g : Gh} {a : Act} (hr : zba w (fun b => b < w.heap.size /\ b ∉ ([] : List Nat)) args vs) (hR : Rel (fun b => b < w.heap.size /\ b ∉ ([] : List Nat)) N (zci (rd args)) g a w)
  (hg : a.tmps = (⟨vs⟩ : Array Value) ++ Array.replicate (N - vs.length) undef /\ (g.A0, g.R0) = ((fun _ => True), RP.of fun b => b ∈ ([] : List Nat) \/ w.heap.size <= b)) : Rel (fun b => b < w.heap.size /\ b ∉ ([] : List Nat)) N (ze8 args) g a w := by
 have hbx : ∀ (ds : List D) (k : Nat), zd5 k (rd ds) = fun _ => none := fun ds => by
  induction ds with
  | nil => intro k; rfl
  | cons d ds ih => intro k; exact ih (k + 1)
 have hG : ∀ b, (b < w.heap.size /\ b ∉ ([] : List Nat)) -> zbr (ze8 args) g w b := fun b hb => by
  refine ⟨⟨fun k hk => absurd rfl hk, fun e x he _ => (by cases he), hb.1, by rw [(Prod.mk.inj hg.2).1]; trivial⟩, ?_⟩
  rintro e ⟨x, hx, _⟩
  cases hx
 refine hR.slots_of (σ' := ze8 args) rfl ?_ hR.defers hR.size fun i => ?_
 ·show (fun _ => none) = zd5 0 (rd args)
  rw [hbx]
 ·have hm : Mv (ze8 args) (ze8 args) g g w w := Mv.of_eq g w rfl rfl
  show VR (zci (rd args)) g w (zfx 0 args i) _
  have hi := zh8 args 0 i
  rw [Nat.zero_add] at hi
  rw [hi]
  cases hd : args[i]? with
  | none => trivial
  | some d =>
   obtain ⟨v, hv1, hv2⟩ := zba.at hr i d hd
   have hlt : i < vs.length := (List.getElem?_eq_some_iff.1 hv1).1
   have e : a.tmps.getD i (g.R0.ξ i) = v := by
    rw [hg.1]
    rw [Array.getD_eq_getD_getElem?, Array.getElem?_append_left (by simpa using hlt)]
    simp [hv1]
   rw [e]
   have hx := zjb hG hv2
   exact (Mv.of_eq (σ := ze8 args) (σ' := zci (rd args)) g w rfl (by show zd5 0 (rd args) = fun _ => none; rw [hbx])).vr hx
theorem zfn {f : FuncId} {fn : Func} {c : Code} {args res : List D} (hc : za8 P f) (hf : P.funcs[f]? = some fn) (hb : fn.body = some c) (hd : zcp fn.ntmps c = true) (hN : (rd args).length <= fn.ntmps)
  (h : ex P c [] (PS P fn.results.toList res) (ze8 args)) : FC P f args res := by
 refine qd9 hc hf hb hd hN (zc4 args) fun w vs fp tp hv g a hR hg => ?_
 obtain ⟨hr, rfl, rfl⟩ := zdf hv
 exact ⟨ze8 args, h, zup hr hR hg⟩
attribute [go_sem] ze8 zfx D.toN T.toN
end Go.Proofs.YtaaniggpnljckaaGreat
namespace Go.Proofs.YtaaniggpnljckaaGreat
set_option linter.unusedSimpArgs false
set_option linter.unusedVariables false
set_option linter.unusedSectionVars false
set_option maxRecDepth 4000
open Go.RowKit
variable {P : Program}
def Ag (D : Nat -> Prop) (a a' : Act) : Prop := ∀ i, ¬ D i -> a'.tmps.getD i undef = a.tmps.getD i undef
theorem Ag.put {D : Nat -> Prop} {a0 a : Act} (h : Ag D a0 a) {d : Option Nat} (hd : ∀ i, d = some i -> D i) (v : Value) : Ag D a0 (a.put d v) := fun i hi => by
 cases d with
 | none => exact h i hi
 | some j =>
  have hij : i ≠ j := fun e => hi (e ▸ hd j rfl)
  rw [show (a.put (some j) v).tmps = a.tmps.setIfInBounds j v from rfl, zgw a hij]
  exact h i hi
end Go.Proofs.YtaaniggpnljckaaGreat
namespace Go.Proofs.YtaaniggpnljckaaGreat
set_option linter.unusedSimpArgs false
set_option linter.unusedVariables false
set_option linter.unusedSectionVars false
set_option maxRecDepth 4000
open Go.RowKit
variable {P : Program}
theorem Rel.turn {n0 n1 A1 : Nat -> Prop} {N : Nat} {σ : St} {g : Gh} {a : Act} {w w' : World} (h : Rel n0 N σ g a w) (hF : ∀ b, Fix σ g w b -> A1 b /\ w'.heap[b]? = w.heap[b]?) (hz : w.heap.size <= w'.heap.size)
  (hn : ∀ b, ¬ n1 b -> A1 b /\ g.R0 b) (hb : ∀ k, σ.bx k ≠ none -> ¬ n1 (g.β k) /\ w'.heap[g.β k]? = w.heap[g.β k]?) (he : ∀ e, σ.On e -> ∀ b ∈ g.φ e, ¬ n1 b /\ A1 b /\ w'.heap[b]? = w.heap[b]?) : Rel n1 N σ { g with A0 := A1 } a w' := by
 have m : Mv σ σ g { g with A0 := A1 } w w' := ⟨fun b hf => (hF b hf).2, fun b hf => ⟨hf.1, hf.2.1, Nat.lt_of_lt_of_le hf.2.2.1 hz, (hF b hf).1⟩, fun b hbb => ⟨rfl, hbb⟩, fun e n hh => ⟨hh, rfl⟩, fun b hb => hb.2⟩
 refine ⟨h.defers, h.size, hn, fun i => m.vr (h.slots i), fun b cs hbb => ?_, fun b hbb => (hb b hbb).1, h.inj, fun e x hx ho => m.evr (h.evs e x hx ho) fun b hm => (he e ⟨x, hx, ho⟩ b hm).2.2, fun e x hx ho => ⟨m.rep (h.offs e x hx ho).1, (h.offs e x hx ho).2⟩, h.slc, fun e ho b hm => ⟨(he e ho b hm).2.1, (h.ebase e ho b hm).2⟩, fun e ho b hm => (he e ho b hm).1, h.nodup, h.apart, h.ebx⟩
 obtain ⟨vs, ty, k1, k2⟩ := h.boxes b cs hbb
 exact ⟨vs, ty, by rw [(hb b (by rw [hbb]; simp)).2]; exact k1, m.crs k2⟩
theorem Rel.elt {n0 : Nat -> Prop} {N : Nat} {σ : St} {g : Gh} {a : Act} {w : World} (h : Rel n0 N σ g a w) {e : Nat} (ho : σ.On e) {b : Nat} (hm : b ∈ g.φ e) : b < w.heap.size := by
 obtain ⟨x, hx, hon⟩ := ho
 exact (h.evs e x hx hon).lt b hm
end Go.Proofs.YtaaniggpnljckaaGreat
namespace Go.Proofs.YtaaniggpnljckaaGreat
set_option linter.unusedSimpArgs false
set_option linter.unusedVariables false
set_option linter.unusedSectionVars false
set_option maxRecDepth 4000
open Go.RowKit
variable {P : Program}
theorem owK_rn (t : T) (A B : Prop) : owK (.one (.rn t)) A B = B := by simp [owK, isOw]
attribute [go_sem] owK_rn
end Go.Proofs.YtaaniggpnljckaaGreat
namespace Go.Proofs.YtaaniggpnljckaaGreat
set_option linter.unusedSimpArgs false
set_option linter.unusedVariables false
set_option linter.unusedSectionVars false
set_option maxRecDepth 4000
open Go.RowKit
variable {P : Program}
mutual
def GrT (w : World) : T -> T -> List Nat -> Prop
 | .vs a l c, y, ex => zao w y (.slice a l c) ex
 | .sl sz rows, y, ex => ∃ rows', y = .sl sz rows' /\ zi6 w rows rows' ex
 | x, y, ex => y = x /\ ex = []
def zi6 (w : World) : List (List T) -> List (List T) -> List Nat -> Prop
 | [], ys, ex => ys = [] /\ ex = []
 | r :: rs, ys, ex => ∃ r' rs' e1 e2, ys = r' :: rs' /\ ex = e1 ++ e2 /\ GrAt w r r' e1 /\ zi6 w rs rs' e2
def GrAt (w : World) : List T -> List T -> List Nat -> Prop
 | [], ys, ex => ys = [] /\ ex = []
 | c :: cs, ys, ex => ∃ c' cs' e1 e2, ys = c' :: cs' /\ ex = e1 ++ e2 /\ GrT w c c' e1 /\ GrAt w cs cs' e2
end
theorem zi6.len {w : World} : ∀ {rs ys : List (List T)} {ex : List Nat}, zi6 w rs ys ex -> ys.length = rs.length
 | [], ys, ex, h => by unfold zi6 at h; rw [h.1]
 | r :: rs, ys, ex, h => by
  unfold zi6 at h
  obtain ⟨r', rs', e1, e2, rfl, _, _, h2⟩ := h
  simp [h2.len]
theorem GrAt.len {w : World} : ∀ {rs ys : List T} {ex : List Nat}, GrAt w rs ys ex -> ys.length = rs.length
 | [], ys, ex, h => by unfold GrAt at h; rw [h.1]
 | r :: rs, ys, ex, h => by
  unfold GrAt at h
  obtain ⟨r', rs', e1, e2, rfl, _, _, h2⟩ := h
  simp [h2.len]
end Go.Proofs.YtaaniggpnljckaaGreat
namespace Go.Proofs.YtaaniggpnljckaaGreat
set_option linter.unusedSimpArgs false
set_option linter.unusedVariables false
set_option linter.unusedSectionVars false
set_option maxRecDepth 4000
open Go.RowKit
variable {P : Program}
def swp (a b e : Nat) : Nat := if e = a then b else if e = b then a else e
theorem zcr (a b e : Nat) : swp a b (swp a b e) = e := by unfold swp; split <;> (try split) <;> (try split) <;> omega
def C.ren (a b : Nat) : C -> C
 | .ow e g => .ow (swp a b e) g
 | .eo e g sz i o => .eo (swp a b e) g sz i o
 | .vw e g sz o => .vw (swp a b e) g sz o
 | c => c
def V.ren (a b : Nat) : V -> V
 | .one c => .one (c.ren a b)
 | .agg cs => .agg (cs.map (C.ren a b))
 | .tup xs => .tup (xs.map fun x => (x.1, x.2.map (C.ren a b)))
def St.ren (σ : St) (a b : Nat) : St := ⟨fun i => (σ.sl i).ren a b, fun k => (σ.bx k).map (·.map (C.ren a b)), fun e => σ.ev (swp a b e)⟩
def Gh.ren (g : Gh) (a b : Nat) : Gh := { g with ψ := fun e => g.ψ (swp a b e), φ := fun e => g.φ (swp a b e) }
theorem zgt {σ : St} {a b k : Nat} : (σ.ren a b).bx k ≠ none ↔ σ.bx k ≠ none := by unfold St.ren; simp
theorem zos {σ : St} {a b e n : Nat} (h : σ.has e n) : (σ.ren a b).has (swp a b e) n := by
 obtain ⟨x, h1, h2⟩ := h
 exact ⟨x, by show σ.ev (swp a b (swp a b e)) = _; rw [zcr]; exact h1, h2⟩
theorem zo9 {σ : St} {g : Gh} {w : World} {a b : Nat} : Fix (σ.ren a b) (g.ren a b) w = Fix σ g w := by
 funext q
 refine propext ⟨fun h => ⟨fun k hk => h.1 k (zgt.2 hk), fun e x he ho => ?_, h.2.2⟩, fun h => ⟨fun k hk => h.1 k (zgt.1 hk), fun e x he ho => h.2.1 (swp a b e) x he ho, h.2.2⟩⟩
 have := h.2.1 (swp a b e) x (by show σ.ev (swp a b (swp a b e)) = _; rw [zcr]; exact he) ho
 have e2 : (g.ren a b).φ (swp a b e) = g.φ e := by show g.φ (swp a b (swp a b e)) = _; rw [zcr]
 rwa [e2] at this
theorem zt5 {σ : St} {g : Gh} {w : World} {a b : Nat} : zbr (σ.ren a b) (g.ren a b) w = zbr σ g w := by
 funext q
 unfold zbr
 rw [zo9]
 refine propext ⟨fun h => ⟨h.1, fun e ho hm => h.2 (swp a b e) ?_ ?_⟩, fun h => ⟨h.1, fun e ho hm => h.2 (swp a b e) ho hm⟩⟩
 ·show σ.On (swp a b (swp a b e)); rw [zcr]; exact ho
 ·show q ∈ g.φ (swp a b (swp a b e)); rw [zcr]; exact hm
theorem zvv {σ : St} {g : Gh} {w : World} {a b : Nat} {c : C} {v : Value} (h : CR σ g w c v) : CR (σ.ren a b) (g.ren a b) w (c.ren a b) v := by
 have hF := zo9 (σ := σ) (g := g) (w := w) (a := a) (b := b)
 have hψ : ∀ e, (g.ren a b).ψ (swp a b e) = g.ψ e := fun e => by show g.ψ (swp a b (swp a b e)) = _; rw [zcr]
 cases c with
 | t x => show zai _ _ _ _; rw [hF]; exact h
 | nl s => exact h
 | ow e n => exact ⟨by show v = (g.ren a b).ψ (swp a b e) n; rw [hψ]; exact h.1, zos h.2⟩
 | bx q o => exact ⟨h.1, zgt.2 h.2⟩
 | el cs o => obtain ⟨q, r, h1, h2, h3⟩ := h; exact ⟨q, r, h1, by rw [hF]; exact h2, by rw [hF]; exact h3⟩
 | eo e s sz i o => obtain ⟨q, n, c, h1, h2, h3, h4⟩ := h; exact ⟨q, n, c, by rw [hψ]; exact h1, h2, h3, zos h4⟩
 | vw e s sz i => obtain ⟨q, n, c, h1, h2, h3, h4⟩ := h; exact ⟨q, n, c, by rw [hψ]; exact h1, h2, h3, zos h4⟩
 | fn f caps => exact ⟨h.1, fun q hq => zgt.2 (h.2 q hq)⟩
 | cv u => exact h
 | any => trivial
 | rn x => show zai _ _ _ _; rw [zt5]; exact h
 | er cs o => obtain ⟨q, r, h1, h2, h3⟩ := h; exact ⟨q, r, h1, by rw [zt5]; exact h2, by rw [zt5]; exact h3⟩
theorem zk4 {σ : St} {g : Gh} {w : World} {a b : Nat} : ∀ {cs : List C} {vs : List Value}, CRs σ g w cs vs -> CRs (σ.ren a b) (g.ren a b) w (cs.map (C.ren a b)) vs
 | [], _, h => h
 | c :: cs, _, h => by obtain ⟨v, vs', rfl, h1, h2⟩ := h; exact ⟨v, vs', rfl, zvv h1, zk4 h2⟩
theorem zxb {σ : St} {g : Gh} {w : World} {a b : Nat} : ∀ {xs : List (Bool × List C)} {vs : List Value}, CRt σ g w xs vs -> CRt (σ.ren a b) (g.ren a b) w (xs.map fun x => (x.1, x.2.map (C.ren a b))) vs
 | [], _, h => h
 | x :: xs, _, h => by
  obtain ⟨v, vs', rfl, h1, h2⟩ := h
  refine ⟨v, vs', rfl, ?_, zxb h2⟩
  unfold CRx at h1 ⊢
  split at h1
  ·rw [if_pos ‹_›]; obtain ⟨q, h3, h4⟩ := h1; exact ⟨q, h3, zk4 h4⟩
  ·rw [if_neg ‹_›]; obtain ⟨c, h3, h4⟩ := h1; exact ⟨c.ren a b, by simp [h3], zvv h4⟩
theorem vr_ren {σ : St} {g : Gh} {w : World} {a b : Nat} {x : V} {v : Value} (h : VR σ g w x v) : VR (σ.ren a b) (g.ren a b) w (x.ren a b) v := by
 cases x with
 | one c => exact zvv h
 | agg cs => obtain ⟨q, h1, h2⟩ := h; exact ⟨q, h1, zk4 h2⟩
 | tup xs => obtain ⟨q, h1, h2⟩ := h; exact ⟨q, h1, zxb h2⟩
theorem zjc {σ : St} {a b e : Nat} (h : (σ.ren a b).On e) : σ.On (swp a b e) := h
theorem Rel.ren {n0 : Nat -> Prop} {N : Nat} {σ : St} {g : Gh} {ac : Act} {w : World} (h : Rel n0 N σ g ac w) (a b : Nat) : Rel n0 N (σ.ren a b) (g.ren a b) ac w := by
 have hF := zo9 (σ := σ) (g := g) (w := w) (a := a) (b := b)
 refine ⟨h.defers, h.size, h.anew, fun i => vr_ren (h.slots i), fun k cs hk => ?_, fun k hk => h.base k (zgt.1 hk), fun k k' h1 h2 => h.inj k k' (zgt.1 h1) (zgt.1 h2), fun e x he ho => ?_, fun e x he ho => ?_, fun e n => h.slc (swp a b e) n, fun e he => h.ebase _ (zjc he), fun e he => h.etop _ (zjc he), fun e he => h.nodup _ (zjc he), fun e e' he he' hne => h.apart _ _ (zjc he) (zjc he') (fun k => hne (by rw [<- zcr a b e, k, zcr])), fun e k he hk => h.ebx _ k (zjc he) (zgt.1 hk)⟩
 ·obtain ⟨cs0, h1, rfl⟩ := Option.map_eq_some_iff.1 hk
  obtain ⟨vs, ty, k1, k2⟩ := h.boxes k cs0 h1
  exact ⟨vs, ty, k1, zk4 k2⟩
 ·rw [hF]; exact h.evs (swp a b e) x he ho
 ·rw [hF]; exact h.offs (swp a b e) x he ho
theorem zrd (a b : Nat) : ∀ (l : List (Nat × V)) (i : Nat), (ze0 l i).ren a b = ze0 (l.map fun p => (p.1, p.2.ren a b)) i
 | [], i => rfl
 | (j, v) :: l, i => by
  simp only [List.map_cons, ze0]
  split
  ·rfl
  ·exact zrd a b l i
theorem zwr {α β : Type} (f : α -> β) : ∀ (l : List (Nat × α)) (i : Nat), (tbl l i).map f = tbl (l.map fun p => (p.1, f p.2)) i
 | [], i => rfl
 | (j, v) :: l, i => by
  simp only [List.map_cons, tbl]
  split
  ·rfl
  ·exact zwr f l i
theorem zxl {α : Type} (a b : Nat) : ∀ (l : List (Nat × α)) (i : Nat), tbl l (swp a b i) = tbl (l.map fun p => (swp a b p.1, p.2)) i
 | [], i => rfl
 | (j, v) :: l, i => by
  simp only [List.map_cons, tbl]
  by_cases h : swp a b i = j
  ·rw [if_pos h, if_pos (by rw [<- h, zcr])]
  ·rw [if_neg h, if_neg (fun e => h (by rw [e, zcr]))]
   exact zxl a b l i
theorem wk_ren (a b : Nat) (l : List (Nat × V)) (bl : List (Nat × List C)) (el : List (Nat × Ev)) : Wk (hd l bl el) (hd (l.map fun p => (p.1, p.2.ren a b)) (bl.map fun p => (p.1, p.2.map (C.ren a b))) (el.map fun p => (swp a b p.1, p.2))) := fun n0 N g ac w hR => by
 have e : (hd l bl el).ren a b = hd (l.map fun p => (p.1, p.2.ren a b)) (bl.map fun p => (p.1, p.2.map (C.ren a b))) (el.map fun p => (swp a b p.1, p.2)) := by
  unfold hd St.ren
  simp only [St.mk.injEq]
  exact ⟨funext fun i => zrd a b l i, funext fun k => zwr _ bl k, funext fun e => zxl a b el e⟩
 exact ⟨g.ren a b, e ▸ hR.ren a b, rfl, rfl⟩
end Go.Proofs.YtaaniggpnljckaaGreat
namespace Go.Proofs.YtaaniggpnljckaaGreat
set_option linter.unusedSimpArgs false
set_option linter.unusedVariables false
set_option linter.unusedSectionVars false
set_option maxRecDepth 4000
open Go.RowKit
variable {P : Program}
def C.evs : C -> List Nat
 | .ow e _ => [e]
 | .eo e _ _ _ _ => [e]
 | .vw e _ _ _ => [e]
 | _ => []
def C.bxs : C -> List Nat
 | .bx b _ => [b]
 | .fn _ caps => caps
 | _ => []
def V.alls : V -> List C
 | .one c => [c]
 | .agg cs => cs
 | .tup xs => xs.flatMap (·.2)
def ins (x : Nat) : List Nat -> List Nat
 | [] => [x]
 | y :: l => if x = y then y :: l else y :: ins x l
def zi4 : List Nat -> List Nat -> List Nat
 | [], l => l
 | x :: xs, l => zi4 xs (ins x l)
def noK (x : Nat) : List Nat -> Bool
 | [] => true
 | y :: l => if x = y then false else noK x l
def dif (l : List Nat) : List Nat -> List Nat
 | [] => []
 | x :: xs => if noK x l = true then x :: dif l xs else dif l xs
def qdb : List C -> List Nat
 | [] => []
 | c :: cs => c.bxs ++ qdb cs
def qby : List C -> List Nat
 | [] => []
 | c :: cs => c.evs ++ qby cs
def St.kb0 (σ : St) : List Nat -> List Nat
 | [] => []
 | i :: L => zi4 (qdb (σ.sl i).alls) (σ.kb0 L)
def St.kb1 (σ : St) : List Nat -> List Nat
 | [] => []
 | b :: B => zi4 (b :: qdb ((σ.bx b).getD [])) (σ.kb1 B)
def St.KB (σ : St) (L : List Nat) : List Nat := σ.kb1 (σ.kb0 L)
def St.ke0 (σ : St) : List Nat -> List Nat
 | [] => []
 | i :: L => zi4 (qby (σ.sl i).alls) (σ.ke0 L)
def St.ke1 (σ : St) (l : List Nat) : List Nat -> List Nat
 | [] => l
 | b :: B => zi4 (qby ((σ.bx b).getD [])) (σ.ke1 l B)
def St.KE (σ : St) (L : List Nat) : List Nat := σ.ke1 (σ.ke0 L) (σ.KB L)
def St.lL (σ : St) (L : List Nat) : List (Nat × V) := L.map fun i => (i, σ.sl i)
def St.lB (σ : St) (B : List Nat) : List (Nat × List C) := B.map fun b => (b, (σ.bx b).getD [])
def St.lE (σ : St) (E : List Nat) : List (Nat × Ev) := E.map fun e => (e, (σ.ev e).getD ⟨false, 0, [], 0, false⟩)
def St.hL (σ : St) (L : List Nat) : St := hd (σ.lL L) (σ.lB (σ.KB L)) (σ.lE (σ.KE L))
def wkK (σ : St) (L : List Nat) : Prop := wkL σ (σ.hL L) (σ.lL L) /\ wkB σ (σ.hL L) (σ.lB (σ.KB L)) /\ wkE σ (σ.lE (σ.KE L))
theorem wkK_wk {σ : St} {L : List Nat} (h : wkK σ L) : Wk σ (σ.hL L) := zab h
section
variable {ks : List Fr} {Q : Exit -> St -> Prop} {σ : St} {ops : Array Oper} {os : List Oper} {ty : TypeId} {ps : String} {af : Array Edge} {dst : Option Nat} {x : Operand} {asx : Array Operand} {ts : Array TypeId} {f : FuncId}
theorem zjx {d : Nat} {ds : List (Bool × D)} {res : List D} (L A : List Nat) (pl : List (Nat × Nat × Nat)) (h : GC P f ds res)
  (hw : wkL σ (hd (σ.lL A ++ σ.lL L) (σ.lB (dif (σ.KB L) (σ.KB A)) ++ σ.lB (σ.KB L)) (σ.lE (dif (σ.KE L) (σ.KE A)) ++ σ.lE (σ.KE L))) (σ.lL A ++ σ.lL L) /\ wkB σ (hd (σ.lL A ++ σ.lL L) (σ.lB (dif (σ.KB L) (σ.KB A)) ++ σ.lB (σ.KB L)) (σ.lE (dif (σ.KE L) (σ.KE A)) ++ σ.lE (σ.KE L))) (σ.lB (dif (σ.KB L) (σ.KB A)) ++ σ.lB (σ.KB L)) /\ wkE σ (σ.lE (dif (σ.KE L) (σ.KE A)) ++ σ.lE (σ.KE L)))
  (hk : zct (σ.lL L) (σ.lL A) /\ zct (σ.lB (σ.KB L)) (σ.lB (dif (σ.KB L) (σ.KB A))) /\ zct (σ.lE (σ.KE L)) (σ.lE (dif (σ.KE L) (σ.KE A))) /\ okL (σ.hL L) (σ.lL L) /\ okB (σ.hL L) (σ.lB (σ.KB L)) /\ okE (σ.lE (σ.KE L)))
  (hp : zam (zat ((hd (σ.lL A ++ σ.lL L) (σ.lB (dif (σ.KB L) (σ.KB A)) ++ σ.lB (σ.KB L)) (σ.lE (dif (σ.KE L) (σ.KE A)) ++ σ.lE (σ.KE L))).get P 0 x)) fun p => p.1 = f /\ gvA (hd (σ.lL A ++ σ.lL L) (σ.lB (dif (σ.KB L) (σ.KB A)) ++ σ.lB (σ.KB L)) (σ.lE (dif (σ.KE L) (σ.KE A)) ++ σ.lE (σ.KE L))) (zm9 (σ.lE (σ.KE L))) [] pl ((hd (σ.lL A ++ σ.lL L) (σ.lB (dif (σ.KB L) (σ.KB A)) ++ σ.lB (σ.KB L)) (σ.lE (dif (σ.KE L) (σ.KE A)) ++ σ.lE (σ.KE L))).gets P asx ts ++ p.2) ds)
  (hf : zfc d 0 (za1 res) (σ.hL L).ev) (k : exo P ops os ks Q ((σ.hL L).callF d res)) : exo P ops (⟨some d, .call ⟨.value x, asx, ts⟩, ty, ps, af, none⟩ :: os) ks Q σ :=
 callG (σ.lL A) (σ.lL L) _ _ _ _ pl h hw hk hp hf k
theorem qgn {σ : St} {g : Gh} {w : World} {d : D} {v : Value} (h : zto w (zbr σ g w) d v) : VR σ g w d.toN v := zjb (fun _ h => h) h
theorem zba.vrlN {σ : St} {g : Gh} {w : World} : ∀ {ds : List D} {us : List Value}, zba w (zbr σ g w) ds us -> VRl σ g w (ds.map D.toN) us
 | [], us, h => h
 | d :: ds, us, h => by
  obtain ⟨u, us', rfl, h1, h2⟩ := h
  exact ⟨u, us', rfl, qgn h1, zba.vrlN h2⟩
theorem Rel.frNew {n0 : Nat -> Prop} {N : Nat} {σ : St} {g : Gh} {a : Act} {w w' : World} (hR : Rel n0 N σ g a w) (hn : LtK n0 w) {b : Nat} (h1 : w.heap.size <= b) (h2 : b < w'.heap.size) : zbr σ g w' b := by
 refine ⟨⟨fun k hk e => by have := hR.lt hk; omega, fun e x hx ho hh => ?_, h2, (hR.anew b (hn.new h1)).1⟩, fun e ⟨x, hx, ho⟩ hm => ?_⟩
 ·have := (hR.evs e x hx ho).lt b (List.mem_of_mem_head? hh); omega
 ·have := (hR.evs e x hx ho).lt b hm; omega
def St.callN (σ : St) (d : Option Nat) (res : List D) : St := σ.put d (zk6 (res.map D.toN))
theorem qe2 (res : List D) : ∀ y ∈ res.map D.toN, y.isTup = false := fun y hy => by
 obtain ⟨d, _, rfl⟩ := List.mem_map.1 hy
 cases d <;> rfl
theorem qev {g : Gh} {w : World} {c : C} {t : T} {v : Value} (h : rdC c t) (hv : CR σ g w c v) : zai w (zbr σ g w) t v := by
 unfold rdC at h
 split at h
 ·rename_i x
  obtain ⟨rfl, hn⟩ := h
  exact zia (σ := σ) (g := g) (x := .one (.t x)) (d := .one x) ⟨rfl, hn⟩ hv _
 ·rename_i f f'
  subst h
  exact zia (σ := σ) (g := g) (x := .one (.fn f [])) (d := .one (.fn f [])) rfl hv _
 ·subst h; exact hv
 ·obtain ⟨rfl, rfl⟩ := h
  obtain ⟨b, q, h1, h2, h3⟩ := hv
  unfold zai
  exact ⟨b, q, h1, h2, h3⟩
 ·subst h
  rw [show v = .slice none 0 0 from hv]
  unfold zai
  exact ⟨none, 0, rfl, by simp, by simp, Or.inl rfl⟩
 ·exact h.elim
theorem zve {g : Gh} {w : World} : ∀ {cs : List C} {ts : List T} {vs : List Value}, rdCs cs ts -> CRs σ g w cs vs -> zad w (zbr σ g w) ts vs
 | [], [], vs, _, hv => by unfold zad; exact hv
 | [], _ :: _, _, h, _ => h.elim
 | _ :: _, [], _, h, _ => h.elim
 | c :: cs, t :: ts, vs, h, hv => by
  obtain ⟨v, vs', rfl, h1, h2⟩ := hv
  unfold zad
  exact ⟨v, vs', rfl, qev h.1 h1, zve h.2 h2⟩
theorem zwj {g : Gh} {w : World} {x : V} {d : D} {v : Value} (h : rdV x d) (hv : VR σ g w x v) : zto w (zbr σ g w) d v := by
 unfold rdV at h
 split at h
 ·exact qev h hv
 ·obtain ⟨b, e, hv⟩ := hv; exact ⟨b, e, zve h hv⟩
 ·exact h.elim
def qey : List V -> List D -> Prop
 | [], ds => ds = []
 | v :: vs, ds => ∃ d ds', ds = d :: ds' /\ rdV v d /\ qey vs ds'
theorem zvs (v : V) (vs : List V) (d : D) (ds : List D) : qey (v :: vs) (d :: ds) = (rdV v d /\ qey vs ds) := by
 refine propext ⟨fun ⟨_, _, e, h⟩ => ?_, fun h => ⟨d, ds, rfl, h⟩⟩
 cases e; exact h
theorem qce : qey [] [] = True := by simp [qey]
theorem zuc {g : Gh} {w : World} : ∀ {xs : List V} {ds : List D}, qey xs ds -> ∀ {vs : List Value}, VRl σ g w xs vs -> zba w (zbr σ g w) ds vs
 | [], ds, h, vs, hv => by rw [show ds = [] from h]; exact hv
 | x :: xs, ds, h, vs, hv => by
  obtain ⟨d, ds', rfl, h1, h2⟩ := h
  obtain ⟨v, vs', rfl, k1, k2⟩ := hv
  exact ⟨v, vs', rfl, zwj h1 k1, zuc h2 k2⟩
theorem zsp {o : Oper} {x : Operand} {asx : Array Operand} {ts : Array TypeId} {f : FuncId} {cvs : List V} {ds res : List D} (ho : o.op = .call ⟨.value x, asx, ts⟩)
  (h : RC P f ds res) (hc : zat (σ.get P 0 x) = some (f, cvs)) (hv : qey (σ.gets P asx ts ++ cvs) ds) : zae P o σ (σ.callN o.dst res) := by
 intro n0 N g a w hR hn hdN
 obtain ⟨vs, h1, h2⟩ := zcj hR ho hc h.1
 unfold Oper.wp
 rw [h1]
 have hargs := (zuc hv h2).keep (A' := fun b => b < w.heap.size /\ zbr σ g w b) (fun _ _ => rfl) fun b hb => ⟨hb.1.2.2.1, hb⟩
 refine (h.2 w vs (zbr σ g w) hargs).mono ?_
 rintro e w' ⟨us, rfl, o1, hb⟩
 have hR' : Rel n0 N σ g a w' := hR.after hn hb (New.refl σ g (w.heap.size <= ·) w' hR.slc)
 refine ⟨g, ?_, Bk.of_below hb hn, rfl, rfl⟩
 refine hR'.put o.dst (zd1 (zba.vrlN (o1.keep (fun _ _ => rfl) fun b hb' => ?_)) (qe2 res)) hdN
 rcases hb'.2 with hf | hf
 ·exact ⟨⟨hf.1.1, hf.1.2.1, hb'.1, hf.1.2.2.2⟩, hf.2⟩
 ·exact hR.frNew hn hf hb'.1
theorem qdw {ds res : List D} (h : RC P f ds res) (hp : zam (zat (σ.get P 0 x)) fun p => p.1 = f /\ qey (σ.gets P asx ts ++ p.2) ds)
  (k : exo P ops os ks Q (σ.callN dst res)) : exo P ops (⟨dst, .call ⟨.value x, asx, ts⟩, ty, ps, af, none⟩ :: os) ks Q σ := by
 obtain ⟨⟨f', cvs⟩, h1, rfl, h2⟩ := zal hp
 exact zca rfl rfl (zsp rfl h h1 h2) k
end
def gVN (k : Nat) : Bool × D -> V
 | (false, d) => d.toN
 | (true, d) => gV k (true, d)
def zfy : Nat -> List (Bool × D) -> Nat -> V
 | _, [] => fun _ => .one .any
 | k, d :: ds => upd (zfy (k + 1) ds) k (gVN k d)
def zcx (args : List (Bool × D)) : St := ⟨zfy 0 args, fun _ => none, zd5 0 args⟩
theorem zix : ∀ (ds : List (Bool × D)) (k i : Nat), zfy k ds (k + i) = match ds[i]? with | some d => gVN (k + i) d | none => .one .any
 | [], k, i => by simp [zfy]
 | d :: ds, k, 0 => by simp [zfy, upd]
 | d :: ds, k, i + 1 => by
  unfold zfy
  rw [zah _ _ (by omega), show k + (i + 1) = k + 1 + i by omega, zix ds (k + 1) i]
  simp
theorem zas.atR {w : World} {A : Nat -> Prop} : ∀ {ds : List (Bool × D)} {vs : List Value} {fp tp : List Nat}, zas w A ds vs fp tp -> ∀ (i : Nat) d, ds[i]? = some (false, d) -> ∃ v, vs[i]? = some v /\ zto w A d v
 | [], _, _, _, _, i, d, h => by simp at h
 | (false, e) :: ds, _, _, _, h, 0, d, hi => by
  obtain ⟨v, vs', rfl, h1, _⟩ := h
  simp only [List.getElem?_cons_zero, Option.some.injEq, Prod.mk.injEq, true_and] at hi
  subst hi
  exact ⟨v, rfl, h1⟩
 | (true, e) :: ds, _, _, _, h, 0, d, hi => by simp at hi
 | (false, e) :: ds, _, _, _, h, i + 1, d, hi => by
  obtain ⟨v, vs', rfl, _, h2⟩ := h
  simpa using zas.atR h2 i d (by simpa using hi)
 | (true, e) :: ds, _, _, _, h, i + 1, d, hi => by
  obtain ⟨v, vs', f1, f2, t1, t2, rfl, rfl, rfl, _, h2⟩ := h
  simpa using zas.atR h2 i d (by simpa using hi)
theorem Rel.frOld {n0 : Nat -> Prop} {N : Nat} {σ : St} {g : Gh} {a : Act} {w : World} (h : Rel n0 N σ g a w) {b : Nat} (h1 : n0 b) (h2 : b < w.heap.size) (h3 : g.A0 b) : zbr σ g w b :=
 ⟨⟨fun k hk e => h.base k hk (e ▸ h1), fun e x hx ho hh => h.etop e ⟨x, hx, ho⟩ b (List.mem_of_mem_head? hh) h1, h2, h3⟩, fun e ho hm => h.etop e ho b hm h1⟩
theorem zst {args : List (Bool × D)} {w : World} {vs : List Value} {fp tp : List Nat} {N : Nat} {g : Gh} {a : Act} (hv : zas w (fun b => b < w.heap.size /\ b ∉ fp) args vs fp tp) (hR : Rel (fun b => b < w.heap.size /\ b ∉ fp) N (zci args) g a w)
  (ht : a.tmps = (⟨vs⟩ : Array Value) ++ Array.replicate (N - vs.length) undef) (hA : ∀ b, g.A0 b) : Rel (fun b => b < w.heap.size /\ b ∉ fp) N (zcx args) g a w := by
 have hm : Mv (zci args) (zcx args) g g w w := Mv.of_eq g w rfl rfl
 refine hR.slots_of (σ' := zcx args) rfl rfl hR.defers hR.size fun i => ?_
 refine (Mv.of_eq (σ := zcx args) (σ' := zci args) g w rfl rfl).vr (σ := zcx args) ?_
 have hi := zix args 0 i
 rw [Nat.zero_add] at hi
 show VR _ _ _ (zfy 0 args i) _
 rw [hi]
 cases hd : args[i]? with
 | none => trivial
 | some p =>
  obtain ⟨b, d⟩ := p
  cases b with
  | true =>
   have h0 := hm.vr (hR.slots i)
   have hj := zfv args 0 i
   rw [Nat.zero_add, hd] at hj
   have h0' : VR (zcx args) g w (zg8 0 args i) (a.tmps.getD i (g.R0.ξ i)) := h0
   rw [hj] at h0'
   exact h0'
  | false =>
   obtain ⟨v, hv1, hv2⟩ := zas.atR hv i d hd
   have hlt : i < vs.length := (List.getElem?_eq_some_iff.1 hv1).1
   have e : a.tmps.getD i (g.R0.ξ i) = v := by
    rw [ht, Array.getD_eq_getD_getElem?, Array.getElem?_append_left (by simpa using hlt)]
    simp [hv1]
   rw [e]
   exact hm.vr (zjb (fun b hb => hR.frOld hb hb.1 (hA b)) hv2)
theorem qdr {f : FuncId} {fn : Func} {c : Code} {args : List (Bool × D)} {res : List D} (hc : za8 P f) (hf : P.funcs[f]? = some fn) (hb : fn.body = some c) (hd : zcp fn.ntmps c = true) (hN : args.length <= fn.ntmps) (hs : zar args)
  (h : ex P c [] (PS P fn.results.toList res) (zcx args)) : GC P f args res :=
 qd9 hc hf hb hd hN hs fun w vs fp tp hv g a hR hg => ⟨_, h, zst hv hR hg.1 fun b => by rw [(Prod.mk.inj hg.2).1]; trivial⟩
def renL (a b : Nat) (l : List (Nat × V)) : List (Nat × V) := l.map fun p => (p.1, p.2.ren a b)
def renB (a b : Nat) (l : List (Nat × List C)) : List (Nat × List C) := l.map fun p => (p.1, p.2.map (C.ren a b))
def renE (a b : Nat) (l : List (Nat × Ev)) : List (Nat × Ev) := l.map fun p => (swp a b p.1, p.2)
theorem zps (a b : Nat) (c : C) : (c.ren a b).ren a b = c := by cases c <;> simp [C.ren, zcr]
theorem zkr (a b : Nat) (cs : List C) : (cs.map (C.ren a b)).map (C.ren a b) = cs := by
 rw [List.map_map]; exact (List.map_congr_left fun c _ => zps a b c).trans (List.map_id cs)
theorem zzu (a b : Nat) (v : V) : (v.ren a b).ren a b = v := by
 cases v with
 | one c => simp [V.ren, zps]
 | agg cs => simp only [V.ren, zkr]
 | tup xs =>
  simp only [V.ren, List.map_map]
  congr 1
  exact (List.map_congr_left fun x _ => by simp only [Function.comp, zkr]; rfl).trans (List.map_id xs)
theorem zc7 (a b : Nat) {σ : St} {l : List (Nat × V)} {bl : List (Nat × List C)} {el : List (Nat × Ev)} (h : wkL σ (hd (renL a b l) (renB a b bl) (renE a b el)) (renL a b l) /\ wkB σ (hd (renL a b l) (renB a b bl) (renE a b el)) (renB a b bl) /\ wkE σ (renE a b el)) : Wk σ (hd l bl el) := by
 have h1 := (zab h).trans (wk_ren a b _ _ _)
 have e1 : (renL a b l).map (fun p => (p.1, p.2.ren a b)) = l := by
  unfold renL; rw [List.map_map]; exact (List.map_congr_left fun p _ => by simp only [Function.comp, zzu]; rfl).trans (List.map_id l)
 have e2 : (renB a b bl).map (fun p => (p.1, p.2.map (C.ren a b))) = bl := by
  unfold renB; rw [List.map_map]; exact (List.map_congr_left fun p _ => by simp only [Function.comp, zkr]; rfl).trans (List.map_id bl)
 have e3 : (renE a b el).map (fun p => (swp a b p.1, p.2)) = el := by
  unfold renE; rw [List.map_map]; exact (List.map_congr_left fun p _ => by simp only [Function.comp, zcr]; rfl).trans (List.map_id el)
 rw [e1, e2, e3] at h1
 exact h1
attribute [go_sem] C.evs C.bxs V.alls ins zi4 noK dif qdb qby St.kb0 St.kb1 St.KB St.ke0 St.ke1 St.KE St.lL St.lB St.lE St.hL wkK St.callN qce zvs gVN zfy zcx renL renB renE C.ren V.ren swp
end Go.Proofs.YtaaniggpnljckaaGreat
namespace Go.Proofs.YtaaniggpnljckaaGreat
set_option linter.unusedSimpArgs false
set_option linter.unusedVariables false
set_option linter.unusedSectionVars false
set_option maxRecDepth 4000
open Go.RowKit
variable {P : Program}
theorem zas.append {w : World} {A : Nat -> Prop} : ∀ {d1 d2 : List (Bool × D)} {v1 v2 : List Value} {f1 f2 t1 t2 : List Nat}, zas w A d1 v1 f1 t1 -> zas w A d2 v2 f2 t2 -> zas w A (d1 ++ d2) (v1 ++ v2) (f1 ++ f2) (t1 ++ t2)
 | [], _, _, _, _, _, _, _, h, k => by obtain ⟨rfl, rfl, rfl⟩ := h; exact k
 | (true, d) :: ds, _, _, _, _, _, _, _, h, k => by
  obtain ⟨v, vs', g1, g2, s1, s2, rfl, rfl, rfl, h1, h2⟩ := h
  exact ⟨v, _, g1, _, s1, _, rfl, by rw [List.append_assoc], by rw [List.append_assoc], h1, zas.append h2 k⟩
 | (false, d) :: ds, _, _, _, _, _, _, _, h, k => by
  obtain ⟨v, vs', rfl, h1, h2⟩ := h
  exact ⟨v, _, rfl, h1, zas.append h2 k⟩
theorem zas.len {w : World} {A : Nat -> Prop} : ∀ {ds : List (Bool × D)} {vs : List Value} {fp tp : List Nat}, zas w A ds vs fp tp -> vs.length = ds.length
 | [], _, _, _, h => by rw [h.1]; rfl
 | (true, d) :: ds, _, _, _, h => by obtain ⟨v, vs', _, _, _, _, rfl, rfl, rfl, _, h2⟩ := h; simp [zas.len h2]
 | (false, d) :: ds, _, _, _, h => by obtain ⟨v, vs', rfl, _, h2⟩ := h; simp [zas.len h2]
theorem zas.split {w : World} {A : Nat -> Prop} : ∀ {d1 d2 : List (Bool × D)} {vs : List Value} {fp tp : List Nat}, zas w A (d1 ++ d2) vs fp tp -> ∃ v1 v2 f1 f2 t1 t2, vs = v1 ++ v2 /\ fp = f1 ++ f2 /\ tp = t1 ++ t2 /\ zas w A d1 v1 f1 t1 /\ zas w A d2 v2 f2 t2
 | [], d2, vs, fp, tp, h => ⟨[], vs, [], fp, [], tp, rfl, rfl, rfl, ⟨rfl, rfl, rfl⟩, h⟩
 | (true, d) :: ds, d2, _, _, _, h => by
  obtain ⟨v, vs', g1, g2, s1, s2, rfl, rfl, rfl, h1, h2⟩ := h
  obtain ⟨v1, v2, f1, f2, t1, t2, rfl, rfl, rfl, k1, k2⟩ := zas.split h2
  exact ⟨v :: v1, v2, g1 ++ f1, f2, s1 ++ t1, t2, rfl, by rw [List.append_assoc], by rw [List.append_assoc], ⟨v, v1, g1, f1, s1, t1, rfl, rfl, rfl, h1, k1⟩, k2⟩
 | (false, d) :: ds, d2, _, _, _, h => by
  obtain ⟨v, vs', rfl, h1, h2⟩ := h
  obtain ⟨v1, v2, f1, f2, t1, t2, rfl, rfl, rfl, k1, k2⟩ := zas.split h2
  exact ⟨v :: v1, v2, f1, f2, t1, t2, rfl, rfl, rfl, ⟨v, v1, rfl, h1, k1⟩, k2⟩
def za3 : List (Bool × D) -> List (Bool × T)
 | [] => []
 | (b, .one t) :: ds => (b, t) :: za3 ds
 | (b, .agg ts) :: ds => ts.map (fun t => (b, t)) ++ za3 ds
def bxA (box : List (Bool × T)) : List (Bool × D) := box.map fun p => (p.1, .one p.2)
theorem ztm.ones {w : World} {A : Nat -> Prop} : ∀ {ts : List T} {vs : List Value} {fp tp : List Nat}, ztm w ts vs fp tp -> zas w A (bxA (ts.map fun t => (true, t))) vs fp tp
 | [], _, _, _, h => h
 | t :: ts, _, _, _, h => by
  obtain ⟨v, vs', f1, f2, t2, rfl, rfl, rfl, h1, h2⟩ := h
  exact ⟨v, vs', f1, f2, _, t2, rfl, rfl, rfl, ⟨h1, rfl⟩, ztm.ones h2⟩
theorem zad.ones {w : World} {A : Nat -> Prop} : ∀ {ts : List T} {vs : List Value}, zad w A ts vs -> zas w A (bxA (ts.map fun t => (false, t))) vs [] []
 | [], _, h => by unfold zad at h; exact ⟨h, rfl, rfl⟩
 | t :: ts, _, h => by
  unfold zad at h
  obtain ⟨v, vs', rfl, h1, h2⟩ := h
  exact ⟨v, vs', rfl, h1, zad.ones h2⟩
theorem zew (a b : List (Bool × T)) : bxA (a ++ b) = bxA a ++ bxA b := List.map_append
theorem zai.cells1 {w : World} {A : Nat -> Prop} {t : T} {v : Value} (h : zai w A t v) : v.cells = #[v] := (zai.one h).2
theorem zas.flat {w : World} {A : Nat -> Prop} : ∀ {ds : List (Bool × D)} {vs : List Value} {fp tp : List Nat}, zas w A ds vs fp tp -> ∃ tp', zas w A (bxA (za3 ds)) (vs.flatMap fun u => u.cells.toList) fp tp'
 | [], _, _, _, h => by obtain ⟨rfl, rfl, rfl⟩ := h; exact ⟨[], rfl, rfl, rfl⟩
 | (true, .one t) :: ds, _, _, _, h => by
  obtain ⟨v, vs', f1, f2, t1, t2, rfl, rfl, rfl, h1, h2⟩ := h
  obtain ⟨tp', h2⟩ := zas.flat h2
  have e : (v :: vs').flatMap (fun u => u.cells.toList) = v :: vs'.flatMap fun u => u.cells.toList := by
   have h1' : zao w t v f1 := h1.1
   simp [h1'.one]
  exact ⟨t1 ++ tp', v, _, f1, f2, t1, tp', e, rfl, rfl, h1, h2⟩
 | (false, .one t) :: ds, _, _, _, h => by
  obtain ⟨v, vs', rfl, h1, h2⟩ := h
  obtain ⟨tp', h2⟩ := zas.flat h2
  have e : (v :: vs').flatMap (fun u => u.cells.toList) = v :: vs'.flatMap fun u => u.cells.toList := by
   have h1' : zai w A t v := h1
   simp [h1'.cells1]
  exact ⟨tp', v, _, e, h1, h2⟩
 | (true, .agg ts) :: ds, _, _, _, h => by
  obtain ⟨v, vs', f1, f2, t1, t2, rfl, rfl, rfl, ⟨a, rfl, h1⟩, h2⟩ := h
  obtain ⟨tp', h2⟩ := zas.flat h2
  refine ⟨t1 ++ tp', ?_⟩
  show zas w A (bxA (ts.map (fun t => (true, t)) ++ za3 ds)) (a ++ vs'.flatMap fun u => u.cells.toList) _ _
  rw [zew]
  exact zas.append h1.ones h2
 | (false, .agg ts) :: ds, _, _, _, h => by
  obtain ⟨v, vs', rfl, ⟨a, rfl, h1⟩, h2⟩ := h
  obtain ⟨tp', h2⟩ := zas.flat h2
  refine ⟨[] ++ tp', ?_⟩
  show zas w A (bxA (ts.map (fun t => (false, t)) ++ za3 ds)) (a ++ vs'.flatMap fun u => u.cells.toList) _ _
  rw [zew]
  exact zas.append h1.ones h2
def mC1 (d j : Nat) : Bool × T -> C
 | (true, t) => owC d j t
 | (false, t) => t.toN
def mC (d : Nat) : Nat -> List (Bool × T) -> List C
 | _, [] => []
 | j, p :: ts => mC1 d j p :: mC d (j + 1) ts
def mE (d : Nat) : Nat -> List (Bool × T) -> (Nat -> Option Ev) -> (Nat -> Option Ev)
 | _, [], f => f
 | j, (true, t) :: ts, f => mE d (j + 1) ts (zox d j f t)
 | j, (false, _) :: ts, f => mE d (j + 1) ts f
def mF (d : Nat) : Nat -> List (Bool × T) -> (Nat -> Option Ev) -> Prop
 | _, [], _ => True
 | j, (true, t) :: ts, f => qbk d j f t /\ mF d (j + 1) ts (zox d j f t)
 | j, (false, _) :: ts, f => mF d (j + 1) ts f
def mD (d : Nat) : Nat -> List (Bool × D) -> List V
 | _, [] => []
 | j, (b, .one t) :: ds => .one (mC1 d j (b, t)) :: mD d (j + 1) ds
 | j, (b, .agg ts) :: ds => .agg (mC d j (ts.map fun t => (b, t))) :: mD d (j + ts.length) ds
theorem zn1 (d : Nat) : ∀ (ts : List (Bool × T)) (j : Nat), (mC d j ts).length = ts.length
 | [], _ => rfl
 | t :: ts, j => by simp [mC, zn1 d ts]
theorem zem (d : Nat) : ∀ (t1 t2 : List (Bool × T)) (j : Nat), mC d j (t1 ++ t2) = mC d j t1 ++ mC d (j + t1.length) t2
 | [], _, _ => by simp [mC]
 | t :: ts, t2, j => by simp only [List.cons_append, mC, zem d ts t2 (j + 1), List.length_cons]; rw [show j + 1 + ts.length = j + (ts.length + 1) by omega]
theorem zlx (d : Nat) : ∀ (ds : List (Bool × D)) (j : Nat), ∀ x ∈ mD d j ds, x.isTup = false
 | [], _, x, hx => by simp [mD] at hx
 | (_, .one t) :: ds, j, x, hx => by
  simp only [mD, List.mem_cons] at hx
  rcases hx with rfl | hx
  ·rfl
  ·exact zlx d ds _ x hx
 | (_, .agg ts) :: ds, j, x, hx => by
  simp only [mD, List.mem_cons] at hx
  rcases hx with rfl | hx
  ·rfl
  ·exact zlx d ds _ x hx
theorem New.mix {τ : St} {g : Gh} {NB : Nat -> Prop} {w' : World} {A : Nat -> Prop} (d : Nat) : ∀ (ts : List (Bool × T)) (vs : List Value) (fp tp : List Nat) (j : Nat) (ev' : Nat -> Option Ev) (g' : Gh) (F : List Nat), New τ g NB w' ev' g' F -> mF d j ts ev' -> zas w' A (bxA ts) vs fp tp -> fp.Nodup -> (∀ b ∈ fp, NB b /\ b ∉ F) →
  ∃ g'', New τ g NB w' (mE d j ts ev') g'' (F ++ fp) /\ (∀ e, ev' e ≠ none -> mE d j ts ev' e = ev' e /\ g''.ψ e = g'.ψ e) /\ ∀ (σ' : St) (w'' : World), σ'.ev = mE d j ts ev' -> (∀ t v, zai w' A t v -> zai w'' (zbr σ' g'' w'') t v) -> CRs σ' g'' w'' (mC d j ts) vs
 | [], vs, fp, tp, j, ev', g', F, hN, hf, ho, hd, hb => by
  obtain ⟨rfl, rfl, rfl⟩ := ho
  exact ⟨g', by simpa [mE] using hN, fun e _ => ⟨rfl, rfl⟩, fun _ _ _ _ => rfl⟩
 | (false, t) :: ts, vs, fp, tp, j, ev', g', F, hN, hf, ho, hd, hb => by
  obtain ⟨v, vs', rfl, h1, h2⟩ := ho
  obtain ⟨g'', k1, k2, k3⟩ := New.mix d ts vs' fp tp (j + 1) ev' g' F hN hf h2 hd hb
  exact ⟨g'', k1, k2, fun σ' w'' hσ hr => ⟨v, vs', rfl, zyd (hr t v h1), k3 σ' w'' hσ hr⟩⟩
 | (true, t) :: ts, vs, fp, tp, j, ev', g', F, hN, hf, ho, hd, hb => by
  obtain ⟨v, vs', f1, f2, t1, t2, rfl, rfl, rfl, ⟨h1, _⟩, h2⟩ := ho
  obtain ⟨hf1, hf2⟩ := hf
  obtain ⟨hd1, hd2, hd3⟩ := List.nodup_append.1 hd
  have h1 : zao w' t v f1 := h1
  by_cases hfl : t.flat = true
  ·have hz : f1 = [] /\ owC d j t = .t t /\ zox d j ev' t = ev' /\ ∀ (σ' : St) (g'' : Gh) (w'' : World), CR σ' g'' w'' (.t t) v := by
    cases t <;> simp only [T.flat, Bool.false_eq_true] at hfl
    ·unfold zao at h1; exact ⟨h1.2.2.2, rfl, rfl, fun _ _ _ => by simp only [CR, zai]; exact ⟨h1.1, h1.2.1, h1.2.2.1⟩⟩
    ·unfold zao at h1; exact ⟨h1.2, rfl, rfl, fun _ _ _ => by simp only [CR, zai]; exact h1.1⟩
    ·unfold zao at h1; exact ⟨h1.2.2, rfl, rfl, fun _ _ _ => by simp only [CR, zai]; exact ⟨h1.1, h1.2.1⟩⟩
    ·unfold zao at h1; exact ⟨h1.2, rfl, rfl, fun _ _ _ => by simp only [CR, zai]; exact h1.1⟩
   obtain ⟨rfl, c2, c3, c4⟩ := hz
   rw [c3] at hf2
   obtain ⟨g'', k1, k2, k3⟩ := New.mix d ts vs' f2 t2 (j + 1) ev' g' F hN hf2 h2 hd2 (fun b hb' => hb b (by simp [hb']))
   refine ⟨g'', by simpa [mE, c3] using k1, fun e he => by simpa [mE, c3] using k2 e he, fun σ' w'' hσ hr => ⟨v, vs', rfl, ?_, k3 σ' w'' (by simpa [mE, c3] using hσ) hr⟩⟩
   show CR σ' g'' w'' (owC d j t) v
   rw [c2]; exact c4 _ _ _
  ·cases t <;> simp only [T.flat, Bool.false_eq_true, not_false_eq_true, not_true] at hfl
   ·rename_i sz rows
    have hi' : ev' (d * 32 + j) = none := hf1
    have hi : τ.ev (d * 32 + j) = none := by
     cases hx : τ.ev (d * 32 + j) with
     | none => rfl
     | some x => have := (hN.old (d * 32 + j) (by rw [hx]; simp)).1; rw [hi', hx] at this; cases this
    have hadd := hN.add hi hi' h1 (fun b hb' => (hb b (by simp [hb'])).1) hd1 (fun b hb' => (hb b (by simp [hb'])).2)
    obtain ⟨g'', k1, k2, k3⟩ := New.mix d ts vs' f2 t2 (j + 1) _ _ _ hadd hf2 h2 hd2 (fun b hb' => ⟨(hb b (by simp [hb'])).1, by
      have := (hb b (by simp [hb'])).2
      simp only [List.mem_append, not_or]
      exact ⟨this, fun hf => hd3 b hf b hb' rfl⟩⟩)
    refine ⟨g'', by simpa [mE, zox] using k1, fun e he => ?_, fun σ' w'' hσ hr => ⟨v, vs', rfl, ?_, k3 σ' w'' hσ hr⟩⟩
    ·have hne : e ≠ d * 32 + j := fun h => he (h ▸ hi')
     have := k2 e (by rw [zah _ _ hne]; exact he)
     simp only [zah _ _ hne] at this
     exact this
    ·have := k2 (d * 32 + j) (by rw [zac]; simp)
     simp only [zac] at this
     exact ⟨by rw [this.2], _, by rw [hσ]; exact this.1, Nat.zero_le _⟩
   ·unfold zao at h1; exact h1.elim
   ·unfold zao at h1; exact h1.elim
   ·unfold zao at h1; exact h1.elim
   ·exact (show False from hf1).elim
   ·unfold zao at h1; exact h1.elim
   ·unfold zao at h1; exact h1.elim
   ·unfold zao at h1; exact h1.elim
theorem zol {σ : St} {g : Gh} {w w1 : World} {A : Nat -> Prop} (d : Nat) : ∀ {ds : List (Bool × D)} {us : List Value} {fp tp : List Nat} (j : Nat), zas w1 A ds us fp tp -> CRs σ g w (mC d j (za3 ds)) (us.flatMap fun u => u.cells.toList) -> VRl σ g w (mD d j ds) us
 | [], us, fp, tp, j, h, _ => h.1
 | (true, .one t) :: ds, us, fp, tp, j, h, k => by
  obtain ⟨v, vs', f1, f2, t1, t2, rfl, rfl, rfl, h1, h2⟩ := h
  have hv : zao w1 t v f1 := h1.1
  simp only [List.flatMap_cons, hv.one, za3, mC] at k
  obtain ⟨u, us', e, k1, k2⟩ := k
  simp only [List.cons_append, List.nil_append, List.cons.injEq] at e
  obtain ⟨rfl, rfl⟩ := e
  exact ⟨v, vs', rfl, k1, zol d (j + 1) h2 k2⟩
 | (false, .one t) :: ds, us, fp, tp, j, h, k => by
  obtain ⟨v, vs', rfl, h1, h2⟩ := h
  have hv : zai w1 A t v := h1
  simp only [List.flatMap_cons, hv.cells1, za3, mC] at k
  obtain ⟨u, us', e, k1, k2⟩ := k
  simp only [List.cons_append, List.nil_append, List.cons.injEq] at e
  obtain ⟨rfl, rfl⟩ := e
  exact ⟨v, vs', rfl, k1, zol d (j + 1) h2 k2⟩
 | (true, .agg ts) :: ds, us, fp, tp, j, h, k => by
  obtain ⟨v, vs', f1, f2, t1, t2, rfl, rfl, rfl, ⟨x, rfl, h1⟩, h2⟩ := h
  simp only [List.flatMap_cons, Value.cells, za3, zem] at k
  obtain ⟨v1, v2, e, k1, k2⟩ := k.split
  have hl : x.length = v1.length := by rw [k1.len, zn1, List.length_map]; exact zav.len (zav.of_g h1)
  obtain ⟨e1, e2⟩ := List.append_inj e hl
  subst e1 e2
  rw [List.length_map] at k2
  exact ⟨_, vs', rfl, ⟨x, rfl, k1⟩, zol d (j + ts.length) h2 k2⟩
 | (false, .agg ts) :: ds, us, fp, tp, j, h, k => by
  obtain ⟨v, vs', rfl, ⟨x, rfl, h1⟩, h2⟩ := h
  simp only [List.flatMap_cons, Value.cells, za3, zem] at k
  obtain ⟨v1, v2, e, k1, k2⟩ := k.split
  have hl : x.length = v1.length := by rw [k1.len, zn1, List.length_map]; exact h1.len
  obtain ⟨e1, e2⟩ := List.append_inj e hl
  subst e1 e2
  rw [List.length_map] at k2
  exact ⟨_, vs', rfl, ⟨x, rfl, k1⟩, zol d (j + ts.length) h2 k2⟩
theorem zdz {σ : St} {g : Gh} {w : World} {n0 : Nat -> Prop} {N : Nat} {a : Act} (hR : Rel n0 N σ g a w) {B : Sr -> List Nat} (hB : Fam w σ g B) {K : List Sr -> Prop} : ∀ {xs : List V} {ds : List (Bool × D)} {u : List Sr} {ps : List (Nat × Nat × Nat)} {vs : List Value}, gvA σ K u ps xs ds -> VRl σ g w xs vs →
  ∃ s, K (s.reverse ++ u) /\ (∃ tp, zas w (zbr σ g w) ds vs (bks B s) tp) /\ (∀ x ∈ s, σ.On x.1) /\ (u.Pairwise okP -> (s.reverse ++ u).Pairwise okP)
 | [], [], u, ps, vs, h, hv => ⟨[], h, ⟨[], hv, rfl, rfl⟩, by simp, fun h => h⟩
 | [], _ :: _, _, _, _, h, _ => h.elim
 | x :: xs, [], _, _, _, h, _ => by cases x <;> exact h.elim
 | x :: xs, (false, d) :: ds, u, ps, vs, h, hv => by
  obtain ⟨v, vs', rfl, h1, h2⟩ := hv
  unfold gvA at h
  obtain ⟨hr, h⟩ := h
  obtain ⟨s, k1, ⟨tp, k2⟩, k3, k4⟩ := zdz hR hB h h2
  exact ⟨s, k1, ⟨tp, v, vs', rfl, zwj hr h1, k2⟩, k3, k4⟩
 | .one c :: xs, (true, .one t) :: ds, u, ps, vs, h, hv => by
  obtain ⟨v, vs', rfl, h1, h2⟩ := hv
  unfold gvA at h
  obtain ⟨s, ps', tp, k1, k2, k3, k4⟩ := zcd hR hB h (vs := [v]) ⟨v, [], rfl, h1, rfl⟩
  obtain ⟨s', j1, ⟨tp', j2⟩, j3, j4⟩ := zdz hR hB k1 h2
  obtain ⟨v0, vs0, f1, f2, t2, e0, e1, rfl, q1, q2⟩ := k2
  cases e0
  obtain ⟨_, rfl, rfl⟩ := q2
  rw [List.append_nil] at e1
  refine ⟨s ++ s', by simpa using j1, ⟨zg7 t f1 ++ tp', v, vs', bks B s, bks B s', _, tp', rfl, by unfold bks; rw [List.flatMap_append], rfl, ⟨by rw [e1]; exact q1, by rw [e1]⟩, j2⟩, fun x hx => ?_, fun hu => by simpa using j4 (k4 hu)⟩
  rcases List.mem_append.1 hx with hx | hx
  ·exact k3 x hx
  ·exact j3 x hx
 | .agg cs :: xs, (true, .agg ts) :: ds, u, ps, vs, h, hv => by
  obtain ⟨v, vs', rfl, ⟨y, rfl, h1⟩, h2⟩ := hv
  unfold gvA at h
  obtain ⟨s, ps', tp, k1, k2, k3, k4⟩ := zcd hR hB h h1
  obtain ⟨s', j1, ⟨tp', j2⟩, j3, j4⟩ := zdz hR hB k1 h2
  refine ⟨s ++ s', by simpa using j1, ⟨tp ++ tp', _, vs', bks B s, bks B s', tp, tp', rfl, by unfold bks; rw [List.flatMap_append], rfl, ⟨y, rfl, k2⟩, j2⟩, fun x hx => ?_, fun hu => by simpa using j4 (k4 hu)⟩
  rcases List.mem_append.1 hx with hx | hx
  ·exact k3 x hx
  ·exact j3 x hx
 | .one _ :: _, (true, .agg _) :: _, _, _, _, h, _ => h.elim
 | .agg _ :: _, (true, .one _) :: _, _, _, _, h, _ => h.elim
 | .tup _ :: _, (true, d) :: _, _, _, _, h, _ => by cases d <;> exact h.elim
def XC (P : Program) (f : FuncId) (args res : List (Bool × D)) : Prop := za8 P f /\ ∀ (w : World) (vs : List Value) (fp tp : List Nat) (A : Nat -> Prop), zas w (fun k => (k < w.heap.size /\ k ∉ fp) /\ A k) args vs fp tp -> fp.Nodup →
 Calls P f ⟨vs⟩ w fun e w' => ∃ us fp' tp', e = .returned (zbk us) /\ zas w' (fun k => (k < w'.heap.size /\ k ∉ fp') /\ (A k \/ w.heap.size <= k \/ k ∈ fp)) res us fp' tp' /\ fp'.Nodup /\ (∀ b ∈ fp', b ∈ fp \/ w.heap.size <= b) /\ Bk (fun k => k < w.heap.size /\ k ∉ fp) w w'
def PM0 (P : Program) (rs : List ResultVar) (res : List (Bool × D)) (pl : List (Nat × Nat × Nat)) (σ : St) : Prop := zam (zbh P σ rs) fun vs => gvA σ (fun _ => True) [] pl vs res
def PM (P : Program) (rs : List ResultVar) (res : List (Bool × D)) (e : Exit) (σ : St) : Prop := match e with
 | .normal => PM0 P rs res [] σ \/ ∃ pl, PM0 P rs res pl σ
 | .ret => PM0 P rs res [] σ \/ ∃ pl, PM0 P rs res pl σ
 | _ => False
theorem zo5 {args : List (Bool × D)} {w : World} {vs : List Value} {fp tp : List Nat} {N : Nat} {g : Gh} {a : Act} {B : Nat -> Prop} (hv : zas w B args vs fp tp) (hR : Rel (fun b => b < w.heap.size /\ b ∉ fp) N (zci args) g a w)
  (ht : a.tmps = (⟨vs⟩ : Array Value) ++ Array.replicate (N - vs.length) undef) (hB : ∀ b, B b -> (b < w.heap.size /\ b ∉ fp) /\ g.A0 b) : Rel (fun b => b < w.heap.size /\ b ∉ fp) N (zcx args) g a w := by
 have hm : Mv (zci args) (zcx args) g g w w := Mv.of_eq g w rfl rfl
 refine hR.slots_of (σ' := zcx args) rfl rfl hR.defers hR.size fun i => ?_
 refine (Mv.of_eq (σ := zcx args) (σ' := zci args) g w rfl rfl).vr (σ := zcx args) ?_
 have hi := zix args 0 i
 rw [Nat.zero_add] at hi
 show VR _ _ _ (zfy 0 args i) _
 rw [hi]
 cases hd : args[i]? with
 | none => trivial
 | some p =>
  obtain ⟨b, d⟩ := p
  cases b with
  | true =>
   have h0 := hm.vr (hR.slots i)
   have hj := zfv args 0 i
   rw [Nat.zero_add, hd] at hj
   have h0' : VR (zcx args) g w (zg8 0 args i) (a.tmps.getD i (g.R0.ξ i)) := h0
   rw [hj] at h0'
   exact h0'
  | false =>
   obtain ⟨v, hv1, hv2⟩ := zas.atR hv i d hd
   have hlt : i < vs.length := (List.getElem?_eq_some_iff.1 hv1).1
   have e : a.tmps.getD i (g.R0.ξ i) = v := by
    rw [ht, Array.getD_eq_getD_getElem?, Array.getElem?_append_left (by simpa using hlt)]
    simp [hv1]
   rw [e]
   exact hm.vr (zjb (fun b hb => hR.frOld (hB b hb).1 (hB b hb).1.1 (hB b hb).2) hv2)
theorem zzq {f : FuncId} {fn : Func} {c : Code} {args res : List (Bool × D)} (hc : za8 P f) (hf : P.funcs[f]? = some fn) (hb : fn.body = some c) (hd : zcp fn.ntmps c = true) (hN : args.length <= fn.ntmps) (hs : zar args)
  (h : ex P c [] (PM P fn.results.toList res) (zcx args)) : XC P f args res := by
 refine ⟨hc, fun w vs fp tp A hv hn => ?_⟩
 refine calls_of_wp hf hb ?_
 have hv' : zas w (fun b => b < w.heap.size /\ A b /\ b ∉ fp) args vs fp tp := zas.keepA (fun b hb => ⟨hb.1.1, hb.2, hb.1.2⟩) hv
 obtain ⟨g, hg, hR⟩ := Rel.start (A0 := fun b => A b \/ w.heap.size <= b \/ b ∈ fp) (R0 := RP.of fun b => b ∈ fp \/ w.heap.size <= b) (N := fn.ntmps) hv' hn hs hN (fun _ h => Or.inl h) (fun b hb => ⟨Or.inr (Or.inr hb), Or.inl hb⟩) (fun b hb => by
  by_cases hlt : b < w.heap.size
  ·have hm : b ∈ fp := Classical.byContradiction fun h => hb ⟨hlt, h⟩
   exact ⟨Or.inr (Or.inr hm), Or.inl hm⟩
  ·exact ⟨Or.inr (Or.inl (by omega)), Or.inr (by omega)⟩)
 have hR0 := zo5 hv' hR rfl (fun b hb => ⟨⟨hb.1, hb.2.2⟩, by rw [(Prod.mk.inj hg).1]; exact Or.inl hb.2.1⟩)
 refine wp_mono (zbi (w0 := w) c (zcx args) _ hd h g _ w hR0 (fun k hk => hk.1) (Bk.refl _ _) hg) fun e a' w' hq => ?_
 obtain ⟨σ', g', h1, h2, h3, h4, h5⟩ := hq
 have key : (∃ pl, PM0 P fn.results.toList res pl σ') -> ∃ v, (results fn a'.tmps).run P w' = .ok v w' /\ ∃ us fp' tp', Ending.returned v = .returned (zbk us) /\ zas w' (fun k => (k < w'.heap.size /\ k ∉ fp') /\ (A k \/ w.heap.size <= k \/ k ∈ fp)) res us fp' tp' /\ fp'.Nodup /\ (∀ b ∈ fp', b ∈ fp \/ w.heap.size <= b) /\ Bk (fun k => k < w.heap.size /\ k ∉ fp) w w' := by
  rintro ⟨pl, hk⟩
  obtain ⟨vs, hvs, hk⟩ := zal hk
  obtain ⟨us, r1, r2⟩ := zbs h2 fn hvs
  obtain ⟨B, hB⟩ := h2.fam
  obtain ⟨s, k1, ⟨tp', k2⟩, k3, k4⟩ := zdz h2 hB hk r2
  rw [List.append_nil] at k4
  have hsp : s.Pairwise okP := (List.pairwise_reverse.1 (k4 List.Pairwise.nil)).imp fun h => h.symm
  have hin : ∀ b ∈ bks B s, ∃ e, σ'.On e /\ b ∈ g'.φ e := fun b hb => by
   obtain ⟨x, hx, hm⟩ := List.mem_flatMap.1 hb
   exact ⟨x.1, k3 x hx, hB.sub x.1 x.2 b (k3 x hx) hm⟩
  have hA : ∀ b, zbr σ' g' w' b -> (b < w'.heap.size /\ b ∉ bks B s) /\ (A b \/ w.heap.size <= b \/ b ∈ fp) := fun b hb => by
   refine ⟨⟨hb.1.2.2.1, fun hm => ?_⟩, ?_⟩
   ·obtain ⟨e, ho, hm⟩ := hin b hm
    exact hb.2 e ho hm
   ·have := hb.1.2.2.2
    rw [(Prod.mk.inj h5).1] at this
    exact this
  refine ⟨_, r1, us, bks B s, tp', rfl, zas.keepA hA k2, zc2 h2 hB k3 hsp, fun b hb => ?_, h4⟩
  obtain ⟨e, ho, hm⟩ := hin b hb
  have := (h2.ebase e ho b hm).2
  rw [(Prod.mk.inj h5).2] at this
  exact this
 have key' : ∀ {Y : Prop}, (PM0 P fn.results.toList res [] σ' \/ ∃ pl, PM0 P fn.results.toList res pl σ') -> ((∃ pl, PM0 P fn.results.toList res pl σ') -> Y) -> Y := fun h k => h.elim (fun h => k ⟨[], h⟩) k
 cases e with
 | normal => exact ⟨h2.defers, key' h1 key⟩
 | ret => exact ⟨h2.defers, key' h1 key⟩
 | exit _ => exact h1.elim
 | goto _ => exact h1.elim
 | panic _ => exact h1.elim
 | outgrown => exact h1.elim
def St.callX (σ : St) (d : Nat) (res : List (Bool × D)) : St := { sl := upd σ.sl d (zk6 (mD d 0 res)), bx := σ.bx, ev := mE d 0 (za3 res) σ.ev }
theorem zvj {o : Oper} {σ τ : St} {x : Operand} {asx : Array Operand} {ts : Array TypeId} {f : FuncId} {cvs : List V} {d : Nat} {ds res : List (Bool × D)} {ps : List (Nat × Nat × Nat)} (ho : o.op = .call ⟨.value x, asx, ts⟩) (hd : o.dst = some d)
  (h : XC P f ds res) (hc : zat (σ.get P 0 x) = some (f, cvs)) (hK : Kept σ τ) (hv : gvA σ (fun u => ∀ s ∈ u, τ.ev s.1 = none) [] ps (σ.gets P asx ts ++ cvs) ds) (hf : mF d 0 (za3 res) τ.ev) : zae P o σ (τ.callX d res) := by
 intro n0 N g a w hR hn hdN
 obtain ⟨vs, h1, h2⟩ := zcj hR ho hc h.1
 unfold Oper.wp
 rw [h1]
 obtain ⟨B, hB⟩ := hR.fam
 obtain ⟨s, k1, ⟨tp, k2⟩, k3, k4⟩ := zdz hR hB hv h2
 rw [List.append_nil] at k1 k4
 have hsp : s.Pairwise okP := (List.pairwise_reverse.1 (k4 List.Pairwise.nil)).imp fun h => h.symm
 have hnd := zc2 hR hB k3 hsp
 have hfp : ∀ b ∈ bks B s, ∃ e, σ.On e /\ τ.ev e = none /\ b ∈ g.φ e := fun b hb => by
  obtain ⟨x, hx, hm⟩ := List.mem_flatMap.1 hb
  exact ⟨x.1, k3 x hx, k1 x (List.mem_reverse.2 hx), hB.sub x.1 x.2 b (k3 x hx) hm⟩
 have hfn : ∀ b, zbr σ g w b -> b ∉ bks B s := fun b hb hm => by obtain ⟨e, h1, _, h3⟩ := hfp b hm; exact hb.2 e h1 h3
 refine (h.2 w vs (bks B s) tp (zbr σ g w) (zas.keepA (fun b hb => ⟨⟨hb.1.2.2.1, hfn b hb⟩, hb⟩) k2) hnd).mono ?_
 rintro e w' ⟨us, fp', tp', rfl, o1, o2, o3, hbk⟩
 obtain ⟨tp2, o1'⟩ := o1.flat
 obtain ⟨g', q1, q2, q3⟩ := New.mix (τ := τ) (g := g) (NB := fun b => b ∈ bks B s \/ w.heap.size <= b) (w' := w') d (za3 res) _ fp' tp2 0 τ.ev g [] (New.refl _ _ _ _ hR.slc) hf o1' o2 (fun b hb' => ⟨o3 b hb', by simp⟩)
 have hR' := hR.given hn hK hfp hbk q1
 have hBk : Bk n0 w w' := ⟨hbk.os, hbk.tape, hbk.output, hbk.size, fun k hk => hbk.block k ⟨hn k hk, fun hm => by
  obtain ⟨e, h1, _, h3⟩ := hfp k hm
  exact hR.etop e h1 k h3 hk⟩⟩
 have hfree : ∀ k, ((k < w'.heap.size /\ k ∉ fp') /\ (zbr σ g w k \/ w.heap.size <= k \/ k ∈ bks B s)) -> zbr ⟨τ.sl, τ.bx, mE d 0 (za3 res) τ.ev⟩ g' w' k := fun k hk => by
  have hOnσ : ∀ e, τ.On e -> σ.On e := fun e ⟨x, hx, ho⟩ => ⟨x, (hK.ev e x hx).1, ho⟩
  have hno : ∀ e, St.On ⟨τ.sl, τ.bx, mE d 0 (za3 res) τ.ev⟩ e -> k ∉ g'.φ e := fun e ho' hm => by
   by_cases hee : τ.ev e = none
   ·obtain ⟨x, hx, _⟩ := ho'
    have := ((q1.new e x hee hx).2.2.1 k hm).2
    rw [List.nil_append] at this
    exact hk.1.2 this
   ·rw [(q1.old e hee).2.2] at hm
    obtain ⟨x, hx, hon⟩ := ho'
    have ho2 : τ.On e := ⟨x, (q1.old e hee).1.symm.trans hx, hon⟩
    rcases hk.2 with h | h | h
    ·exact h.2 e (hOnσ e ho2) hm
    ·obtain ⟨y, hy, hyo⟩ := hOnσ e ho2
     have := (hR.evs e y hy hyo).lt k hm; omega
    ·obtain ⟨e', h1, h2, h3⟩ := hfp k h
     refine hR.apart e e' (hOnσ e ho2) h1 (fun ee => ?_) k hm h3
     subst ee
     obtain ⟨y, hy, _⟩ := ho2
     rw [h2] at hy; cases hy
  have hbne : ∀ b, τ.bx b ≠ none -> σ.bx b ≠ none := fun b hb => by
   obtain ⟨cs, hcs⟩ := Option.ne_none_iff_exists'.1 hb
   rw [(hK.bx b cs hcs).1]; simp
  refine ⟨⟨fun j hj e => ?_, fun e x hx hon hh => hno e ⟨x, hx, hon⟩ (List.mem_of_mem_head? hh), hk.1.1, ?_⟩, hno⟩
  ·have hj' := hbne j hj
   rw [q1.β] at e
   rcases hk.2 with h | h | h
   ·exact h.1.1 j hj' e
   ·have := hR.lt hj'; omega
   ·obtain ⟨e', h1, _, h3⟩ := hfp k h
    exact hR.ebx e' j h1 hj' (e ▸ h3)
  ·rw [q1.A0]
   rcases hk.2 with h | h | h
   ·exact h.1.2.2.2
   ·exact (hR.anew k (hn.new h)).1
   ·obtain ⟨e', h1, _, h3⟩ := hfp k h
    exact (hR.ebase e' h1 k h3).1
 refine ⟨g', ?_, hBk, q1.A0, q1.R0⟩
 have hp := hR'.put (some d) (x := zk6 (mD d 0 res)) (v := zbk us) (zd1 (zol d 0 o1 (q3 _ _ rfl fun t v h => zai.keep (fun _ _ => rfl) hfree t v h)) (zlx d res 0)) (fun i hi => by cases hi; exact hdN d hd)
 rw [hd]
 exact hp
section
variable {ks : List Fr} {Q : Exit -> St -> Prop} {σ : St} {ops : Array Oper} {os : List Oper} {ty : TypeId} {ps : String} {af : Array Edge} {d : Nat} {x : Operand} {asx : Array Operand} {ts : Array TypeId} {f : FuncId} {ds res : List (Bool × D)}
theorem callX (la l : List (Nat × V)) (ba bl : List (Nat × List C)) (ea el : List (Nat × Ev)) (pl : List (Nat × Nat × Nat)) (h : XC P f ds res)
  (hw : wkL σ (hd (la ++ l) (ba ++ bl) (ea ++ el)) (la ++ l) /\ wkB σ (hd (la ++ l) (ba ++ bl) (ea ++ el)) (ba ++ bl) /\ wkE σ (ea ++ el))
  (hk : zct l la /\ zct bl ba /\ zct el ea /\ okL (hd l bl el) l /\ okB (hd l bl el) bl /\ okE el)
  (hp : zam (zat ((hd (la ++ l) (ba ++ bl) (ea ++ el)).get P 0 x)) fun p => p.1 = f /\ gvA (hd (la ++ l) (ba ++ bl) (ea ++ el)) (zm9 el) [] pl ((hd (la ++ l) (ba ++ bl) (ea ++ el)).gets P asx ts ++ p.2) ds) (hf : mF d 0 (za3 res) (hd l bl el).ev)
  (k : exo P ops os ks Q ((hd l bl el).callX d res)) : exo P ops (⟨some d, .call ⟨.value x, asx, ts⟩, ty, ps, af, none⟩ :: os) ks Q σ := by
 obtain ⟨⟨f', cvs⟩, h1, rfl, h2⟩ := zal hp
 obtain ⟨k1, k2, k3, k4, k5, k6⟩ := hk
 refine zca rfl rfl (zae.pre (zab hw) (zvj (P := P) (o := ⟨some d, .call ⟨.value x, asx, ts⟩, ty, ps, af, none⟩) rfl rfl h h1 (τ := hd l bl el) ⟨fun i => ?_, fun b cs hb => ⟨zh1 k2 b cs hb, zk0 k5 b cs hb⟩, fun e x he => ⟨zh1 k3 e x he, zj9 k6 e x he⟩⟩ (zeu (fun u hu => zft hu) h2) hf)) k
 rcases zke k1 i with h | h
 ·exact Or.inl h
 ·exact Or.inr ⟨h, zkv k4 i⟩
theorem ztx (L A : List Nat) (pl : List (Nat × Nat × Nat)) (h : XC P f ds res)
  (hw : wkL σ (hd (σ.lL A ++ σ.lL L) (σ.lB (dif (σ.KB L) (σ.KB A)) ++ σ.lB (σ.KB L)) (σ.lE (dif (σ.KE L) (σ.KE A)) ++ σ.lE (σ.KE L))) (σ.lL A ++ σ.lL L) /\ wkB σ (hd (σ.lL A ++ σ.lL L) (σ.lB (dif (σ.KB L) (σ.KB A)) ++ σ.lB (σ.KB L)) (σ.lE (dif (σ.KE L) (σ.KE A)) ++ σ.lE (σ.KE L))) (σ.lB (dif (σ.KB L) (σ.KB A)) ++ σ.lB (σ.KB L)) /\ wkE σ (σ.lE (dif (σ.KE L) (σ.KE A)) ++ σ.lE (σ.KE L)))
  (hk : zct (σ.lL L) (σ.lL A) /\ zct (σ.lB (σ.KB L)) (σ.lB (dif (σ.KB L) (σ.KB A))) /\ zct (σ.lE (σ.KE L)) (σ.lE (dif (σ.KE L) (σ.KE A))) /\ okL (σ.hL L) (σ.lL L) /\ okB (σ.hL L) (σ.lB (σ.KB L)) /\ okE (σ.lE (σ.KE L)))
  (hp : zam (zat ((hd (σ.lL A ++ σ.lL L) (σ.lB (dif (σ.KB L) (σ.KB A)) ++ σ.lB (σ.KB L)) (σ.lE (dif (σ.KE L) (σ.KE A)) ++ σ.lE (σ.KE L))).get P 0 x)) fun p => p.1 = f /\ gvA (hd (σ.lL A ++ σ.lL L) (σ.lB (dif (σ.KB L) (σ.KB A)) ++ σ.lB (σ.KB L)) (σ.lE (dif (σ.KE L) (σ.KE A)) ++ σ.lE (σ.KE L))) (zm9 (σ.lE (σ.KE L))) [] pl ((hd (σ.lL A ++ σ.lL L) (σ.lB (dif (σ.KB L) (σ.KB A)) ++ σ.lB (σ.KB L)) (σ.lE (dif (σ.KE L) (σ.KE A)) ++ σ.lE (σ.KE L))).gets P asx ts ++ p.2) ds)
  (hf : mF d 0 (za3 res) (σ.hL L).ev) (k : exo P ops os ks Q ((σ.hL L).callX d res)) : exo P ops (⟨some d, .call ⟨.value x, asx, ts⟩, ty, ps, af, none⟩ :: os) ks Q σ :=
 callX (σ.lL A) (σ.lL L) _ _ _ _ pl h hw hk hp hf k
end
attribute [go_sem] za3 mC1 mC mE mF mD St.callX PM PM0 zox qbk
end Go.Proofs.YtaaniggpnljckaaGreat
namespace Go.Proofs.YtaaniggpnljckaaGreat
set_option linter.unusedSimpArgs false
set_option linter.unusedVariables false
set_option linter.unusedSectionVars false
set_option maxRecDepth 4000
open Go.RowKit
variable {P : Program}
def C.fz (e : Nat) (x : Ev) : C -> C
 | .ow e' g => if e' = e then (if g = x.gen then .rn (.sl x.sz x.rows) else .any) else .ow e' g
 | .eo e' g sz i o => if e' = e then .any else .eo e' g sz i o
 | .vw e' g sz o => if e' = e then .any else .vw e' g sz o
 | c => c
def fzS (f : Nat -> V) (e : Nat) (x : Ev) : Nat -> V := fun i => (f i).map (C.fz e x)
def fzB (f : Nat -> Option (List C)) (e : Nat) (x : Ev) : Nat -> Option (List C) := fun b => (f b).map fun cs => cs.map (C.fz e x)
def fzE (f : Nat -> Option Ev) (e : Nat) : Nat -> Option Ev := fun k => if k = e then none else f k
theorem fzS_at (f : Nat -> V) (e : Nat) (x : Ev) (i : Nat) : fzS f e x i = (f i).map (C.fz e x) := rfl
theorem zry (f : Nat -> Option (List C)) (e : Nat) (x : Ev) (b : Nat) : fzB f e x b = (f b).map fun cs => cs.map (C.fz e x) := rfl
theorem fzE_at (f : Nat -> Option Ev) (e k : Nat) : fzE f e k = if k = e then none else f k := rfl
def St.fz (σ : St) (e : Nat) (x : Ev) : St := ⟨fzS σ.sl e x, fzB σ.bx e x, fzE σ.ev e⟩
theorem zyo {σ : St} {e : Nat} {x : Ev} (hx : σ.ev e = some x) (hd : x.deep = true) (ho : x.on = true) : Wk σ (σ.fz e x) := by
 intro n0 N g a w h
 have hev : ∀ e', e' ≠ e -> (σ.fz e x).ev e' = σ.ev e' := fun e' he => by show (if e' = e then none else σ.ev e') = _; rw [if_neg he]
 have hee : (σ.fz e x).ev e = none := by show (if e = e then none else σ.ev e) = _; rw [if_pos rfl]
 have hsome : ∀ e' z, (σ.fz e x).ev e' = some z -> e' ≠ e /\ σ.ev e' = some z := fun e' z hz => by
  by_cases he : e' = e
  ·subst he; rw [hee] at hz; cases hz
  ·exact ⟨he, by rw [<- hev e' he]; exact hz⟩
 have hon : ∀ e', (σ.fz e x).On e' -> e' ≠ e /\ σ.On e' := fun e' ⟨z, hz, h1⟩ => ⟨(hsome e' z hz).1, z, (hsome e' z hz).2, h1⟩
 have hbx : ∀ b, (σ.fz e x).bx b ≠ none ↔ σ.bx b ≠ none := fun b => by unfold St.fz; simp [zry]
 have hOn : σ.On e := ⟨x, hx, ho⟩
 have hf : ∀ b, Fix σ g w b -> Fix (σ.fz e x) g w b := fun b hf => ⟨fun k hk => hf.1 k ((hbx k).1 hk), fun e' z hz h1 => hf.2.1 e' z (hsome e' z hz).2 h1, hf.2.2⟩
 have hfr : ∀ b, zbr σ g w b -> zbr (σ.fz e x) g w b := fun b hb => ⟨hf b hb.1, fun e' h' => hb.2 e' (hon e' h').2⟩
 have hgone : ∀ b ∈ g.φ e, b < w.heap.size -> zbr (σ.fz e x) g w b := fun b hb hl => by
  have hne : ∀ e', (σ.fz e x).On e' -> b ∉ g.φ e' := fun e' he' hm => h.apart e e' hOn (hon e' he').2 (Ne.symm (hon e' he').1) b hb hm
  exact ⟨⟨fun j hj hjb => h.ebx e j hOn ((hbx j).1 hj) (by rw [hjb]; exact hb), fun e' z hz h1 hh => hne e' ⟨z, hz, h1⟩ (List.mem_of_mem_head? hh), hl, (h.ebase e hOn b hb).1⟩, hne⟩
 have hhas : ∀ e' n, e' ≠ e -> σ.has e' n -> (σ.fz e x).has e' n := fun e' n he ⟨z, hz, h1⟩ => ⟨z, by rw [hev e' he]; exact hz, h1⟩
 have cr : ∀ c v, CR σ g w c v -> CR (σ.fz e x) g w (c.fz e x) v := fun c v hc => by
  cases c with
  | t y => exact zai.keep (fun _ _ => rfl) hf y v hc
  | nl s => exact hc
  | ow e' n =>
   show CR _ _ _ (if e' = e then (if n = x.gen then .rn (.sl x.sz x.rows) else .any) else .ow e' n) v
   by_cases he : e' = e
   ·subst he
    rw [if_pos rfl]
    by_cases hn : n = x.gen
    ·rw [if_pos hn]
     subst hn
     obtain ⟨ao, cap, e1, e2, e3, e4⟩ := h.evs _ x hx ho
     rw [<- hc.1] at e1
     show zai _ _ _ _
     unfold zai
     refine ⟨ao, cap, e1, e2, e3, ?_⟩
     rcases e4 with ⟨_, _, e4, _⟩ | ⟨b, cells, ty, fps, k1, k2, k3, k4, k5⟩
     ·exact Or.inl e4
     ·rw [if_pos hd] at k5
      have hl : ∀ b' ∈ fps, b' < w.heap.size := zag.lt cells 0 x.sz x.rows fps k5
      exact Or.inr ⟨b, 0, k1, hgone b (by rw [k2]; simp) (Array.getElem?_eq_some_iff.1 k3).1, zag.rep b cells ty k3 0 x.sz x.rows fps k5 fun b' hb' => hgone b' (by rw [k2]; simp [hb']) (hl b' hb')⟩
    ·rw [if_neg hn]; trivial
   ·rw [if_neg he]; exact ⟨hc.1, hhas e' n he hc.2⟩
  | bx b o => exact ⟨hc.1, (hbx b).2 hc.2⟩
  | el cs o => obtain ⟨b, q, h1, h2, h3⟩ := hc; exact ⟨b, q, h1, hf b h2, zaz.keep (fun _ _ => rfl) hf b rfl q cs h3⟩
  | eo e' s sz i o =>
   show CR _ _ _ (if e' = e then .any else .eo e' s sz i o) v
   by_cases he : e' = e
   ·rw [if_pos he]; trivial
   ·rw [if_neg he]; obtain ⟨b, n, c, h1, h2, h3, h4⟩ := hc; exact ⟨b, n, c, h1, h2, h3, hhas e' s he h4⟩
  | vw e' s sz o =>
   show CR _ _ _ (if e' = e then .any else .vw e' s sz o) v
   by_cases he : e' = e
   ·rw [if_pos he]; trivial
   ·rw [if_neg he]; obtain ⟨b, n, c, h1, h2, h3, h4⟩ := hc; exact ⟨b, n, c, h1, h2, h3, hhas e' s he h4⟩
  | fn f caps => exact ⟨hc.1, fun b hb => (hbx b).2 (hc.2 b hb)⟩
  | cv u => exact hc
  | any => trivial
  | rn y => exact zai.keep (fun _ _ => rfl) hfr y v hc
  | er cs o => obtain ⟨b, q, h1, h2, h3⟩ := hc; exact ⟨b, q, h1, hfr b h2, zaz.keep (fun _ _ => rfl) hfr b rfl q cs h3⟩
 refine ⟨g, ⟨h.defers, h.size, h.anew, fun i => VR.map cr (h.slots i), fun b cs hb => ?_, fun b hb => h.base b ((hbx b).1 hb), fun b b' h1 h2 => h.inj b b' ((hbx b).1 h1) ((hbx b').1 h2), fun e' z hz h1 => ?_, fun e' z hz h1 => ?_, h.slc, fun e' h1 => h.ebase e' (hon e' h1).2, fun e' h1 => h.etop e' (hon e' h1).2, fun e' h1 => h.nodup e' (hon e' h1).2, fun e1 e2 h1 h2 => h.apart e1 e2 (hon e1 h1).2 (hon e2 h2).2, fun e' k h1 h2 => h.ebx e' k (hon e' h1).2 ((hbx k).1 h2)⟩, rfl, rfl⟩
 ·cases hc : σ.bx b with
  | none => unfold St.fz at hb; simp only [zry, hc, Option.map_none] at hb; cases hb
  | some cs0 =>
   unfold St.fz at hb
   simp only [zry, hc, Option.map_some, Option.some.injEq] at hb
   subst hb
   obtain ⟨vs, ty, k1, k2⟩ := h.boxes b cs0 hc
   exact ⟨vs, ty, k1, CRs.map cr k2⟩
 ·obtain ⟨ao, cap, e1, e2, e3, e4⟩ := h.evs e' z (hsome e' z hz).2 h1
  refine ⟨ao, cap, e1, e2, e3, ?_⟩
  rcases e4 with e4 | ⟨b, cells, ty, fps, k1, k2, k3, k4, k5⟩
  ·exact Or.inl e4
  ·refine Or.inr ⟨b, cells, ty, fps, k1, k2, k3, k4, ?_⟩
   split at k5
   ·rw [if_pos ‹_›]; exact k5
   ·rw [if_neg ‹_›]; exact ⟨k5.1, zak.keep (fun _ _ => rfl) hf b rfl 0 z.sz z.rows k5.2⟩
 ·exact ⟨zai.keep (fun _ _ => rfl) hf _ _ (h.offs e' z (hsome e' z hz).2 h1).1, (h.offs e' z (hsome e' z hz).2 h1).2⟩
theorem za9.pre {o : Oper} {σ σ' : St} {K : St -> Prop} (h : Wk σ σ') (k : za9 P o σ' K) : za9 P o σ K := fun n0 N g a w hR hn hd => by
 obtain ⟨g1, h1, h2, h3⟩ := h n0 N g a w hR
 have := k n0 N g1 a w h1 hn hd
 unfold Oper.wp at this ⊢
 revert this
 cases (execOp a.eval o).run P w <;> intro this <;> try exact this
 all_goals (revert this; rw [h2, h3]; exact id)
theorem zb4.pre {id : Nat} {ops : Array Oper} {σ σ' : St} {K : St -> Prop} (h : Wk σ σ') (k : zb4 P id ops σ' K) : zb4 P id ops σ K := fun n0 N g a w hR hn hd => by
 obtain ⟨g1, h1, h2, h3⟩ := h n0 N g a w hR
 have := k n0 N g1 a w h1 hn hd
 rw [h2, h3] at this
 exact this
section
variable {ks : List Fr} {Q : Exit -> St -> Prop} {σ : St} {ops : Array Oper} {os : List Oper} {o : Oper}
theorem qe4 {σ' : St} (h : Wk σ σ') (hg : o.guard = none) (hs : zsy o.op = true) (k : exo P ops (o :: os) ks Q σ') : exo P ops (o :: os) ks Q σ := by
 unfold exo zbj exG at k ⊢
 rw [hg] at k ⊢
 simp only at k ⊢
 unfold zbx zkk at k ⊢
 rw [if_pos (by rw [hs]; rfl)] at k ⊢
 exact k.pre h
theorem zxd (e : Nat) (hg : o.guard = none) (hs : zsy o.op = true) (k : zam (σ.ev e) fun x => x.deep = true /\ x.on = true /\ exo P ops (o :: os) ks Q (σ.fz e x)) : exo P ops (o :: os) ks Q σ := by
 obtain ⟨x, hx, h1, h2, h3⟩ := zal k
 exact qe4 (zyo hx h1 h2) hg hs h3
theorem frzD (e : Nat) {i : Nat} (k : zam (σ.ev e) fun x => x.deep = true /\ x.on = true /\ ex P (.region i ops true) ks Q (σ.fz e x)) : ex P (.region i ops true) ks Q σ := by
 obtain ⟨x, hx, h1, h2, h3⟩ := zal k
 exact zb4.pre (zyo hx h1 h2) h3
theorem zzb (e : Nat) {d : Option Nat} {t : TypeId} {y : Operand} {l hi m : Option Operand} {ty : TypeId} {ps : String} {af : Array Edge} (k : zam (σ.ev e) fun x => x.deep = true /\ x.on = true /\ thn (st P ⟨d, .slice t y l hi m, ty, ps, af, none⟩ (σ.fz e x)) (exo P ops os ks Q)) : ztq P ops ⟨d, .slice t y l hi m, ty, ps, af, none⟩ os ks Q σ := by
 obtain ⟨x, hx, h1, h2, h3⟩ := zal k
 obtain ⟨p, σ', h4, h5, h6⟩ := thnK h3
 exact za9.pre (zyo hx h1 h2) ((zrh h4 h5).toX h6)
end
attribute [go_sem] C.fz St.fz V.map fzS_at zry fzE_at
end Go.Proofs.YtaaniggpnljckaaGreat
namespace Go.Proofs.YtaaniggpnljckaaGreat
theorem ag_3 : znj Tryz.prog 3 = some false := by kernel_rfl
theorem sz_3 : zbc Tryz.prog 3 = some 1 := by kernel_rfl
theorem in_3 : qbm Tryz.prog 3 = some .i64 := by kernel_rfl
theorem ze_3 : zcs Tryz.prog 3 = some [.t (.int .i64 0)] := by kernel_rfl
theorem ag_4 : znj Tryz.prog 4 = some false := by kernel_rfl
theorem sz_4 : zbc Tryz.prog 4 = some 1 := by kernel_rfl
theorem bo_4 : zu6 Tryz.prog 4 = true := by kernel_rfl
theorem ze_4 : zcs Tryz.prog 4 = some [.t (.bool false)] := by kernel_rfl
theorem ag_5 : znj Tryz.prog 5 = some false := by kernel_rfl
theorem sz_5 : zbc Tryz.prog 5 = some 1 := by kernel_rfl
theorem in_5 : qbm Tryz.prog 5 = some .u8 := by kernel_rfl
theorem ag_9 : znj Tryz.prog 9 = some false := by kernel_rfl
theorem sz_9 : zbc Tryz.prog 9 = some 1 := by kernel_rfl
theorem st_9 : zzo Tryz.prog 9 = true := by kernel_rfl
theorem ze_9 : zcs Tryz.prog 9 = some [.t (.str [])] := by kernel_rfl
theorem ag_22 : znj Tryz.prog 22 = some false := by kernel_rfl
theorem sz_22 : zbc Tryz.prog 22 = some 1 := by kernel_rfl
theorem el_22 : elT Tryz.prog 22 = some 5 := by kernel_rfl
theorem nl_24 : nlT Tryz.prog 24 = 1 := by kernel_rfl
theorem ag_24 : znj Tryz.prog 24 = some false := by kernel_rfl
theorem sz_24 : zbc Tryz.prog 24 = some 1 := by kernel_rfl
theorem el_24 : elT Tryz.prog 24 = some 9 := by kernel_rfl
theorem zw4 : zcu Tryz.prog 9 = some 16 := by kernel_rfl
theorem nl_25 : nlT Tryz.prog 25 = 1 := by kernel_rfl
theorem ag_25 : znj Tryz.prog 25 = some false := by kernel_rfl
theorem sz_25 : zbc Tryz.prog 25 = some 1 := by kernel_rfl
theorem el_25 : elT Tryz.prog 25 = some 3 := by kernel_rfl
theorem zuv : zcu Tryz.prog 3 = some 8 := by kernel_rfl
theorem ag_27 : znj Tryz.prog 27 = some true := by kernel_rfl
theorem sz_27 : zbc Tryz.prog 27 = some 3 := by kernel_rfl
theorem ze_27 : zcs Tryz.prog 27 = some [.nl 1, .nl 1, .t (.int .i64 0)] := by kernel_rfl
theorem pl_27 : qci Tryz.prog 27 = some [(0, 1), (1, 1), (2, 1)] := by kernel_rfl
theorem qfl : zj8 Tryz.prog 27 0 = some (0, 24) := by kernel_rfl
theorem qhd : zj8 Tryz.prog 27 1 = some (1, 25) := by kernel_rfl
theorem qhn : zj8 Tryz.prog 27 2 = some (2, 3) := by kernel_rfl
theorem nl_28 : nlT Tryz.prog 28 = 2 := by kernel_rfl
theorem ag_28 : znj Tryz.prog 28 = some false := by kernel_rfl
theorem sz_28 : zbc Tryz.prog 28 = some 1 := by kernel_rfl
theorem el_28 : elT Tryz.prog 28 = some 35 := by kernel_rfl
theorem zrg : zcu Tryz.prog 35 = some 40 := by kernel_rfl
theorem ze_28 : zcs Tryz.prog 28 = some [.nl 2] := by kernel_rfl
theorem ag_35 : znj Tryz.prog 35 = some true := by kernel_rfl
theorem sz_35 : zbc Tryz.prog 35 = some 2 := by kernel_rfl
theorem ze_35 : zcs Tryz.prog 35 = some [.t (.str []), .nl 2] := by kernel_rfl
theorem pl_35 : qci Tryz.prog 35 = some [(0, 1), (1, 1)] := by kernel_rfl
theorem qgx : zj8 Tryz.prog 35 0 = some (0, 9) := by kernel_rfl
theorem qe3 : zj8 Tryz.prog 35 1 = some (1, 28) := by kernel_rfl
theorem ag_36 : znj Tryz.prog 36 = some false := by kernel_rfl
theorem sz_36 : zbc Tryz.prog 36 = some 1 := by kernel_rfl
theorem el_36 : elT Tryz.prog 36 = some 57 := by kernel_rfl
theorem zr2 : zcu Tryz.prog 57 = some 48 := by kernel_rfl
theorem ag_38 : znj Tryz.prog 38 = some true := by kernel_rfl
theorem sz_38 : zbc Tryz.prog 38 = some 1 := by kernel_rfl
theorem ze_38 : zcs Tryz.prog 38 = some [.nl 3] := by kernel_rfl
theorem pl_38 : qci Tryz.prog 38 = some [(0, 1)] := by kernel_rfl
theorem qf2 : zj8 Tryz.prog 38 0 = some (0, 36) := by kernel_rfl
theorem ag_44 : znj Tryz.prog 44 = some false := by kernel_rfl
theorem sz_44 : zbc Tryz.prog 44 = some 1 := by kernel_rfl
theorem in_44 : qbm Tryz.prog 44 = some .u64 := by kernel_rfl
theorem ze_46 : zcs Tryz.prog 46 = some [.nl 1, .t (.int .i64 0), .t (.int .u64 0)] := by kernel_rfl
theorem pl_46 : qci Tryz.prog 46 = some [(0, 1), (1, 1), (2, 1)] := by kernel_rfl
theorem qe1 : zj8 Tryz.prog 46 0 = some (0, 22) := by kernel_rfl
theorem qhe : zj8 Tryz.prog 46 1 = some (1, 3) := by kernel_rfl
theorem qgj : zj8 Tryz.prog 46 2 = some (2, 44) := by kernel_rfl
theorem ag_57 : znj Tryz.prog 57 = some true := by kernel_rfl
theorem sz_57 : zbc Tryz.prog 57 = some 3 := by kernel_rfl
theorem ze_57 : zcs Tryz.prog 57 = some [.t (.bool false), .t (.str []), .nl 2] := by kernel_rfl
theorem pl_57 : qci Tryz.prog 57 = some [(0, 1), (1, 2)] := by kernel_rfl
theorem qgw : zj8 Tryz.prog 57 0 = some (0, 4) := by kernel_rfl
theorem qg1 : zj8 Tryz.prog 57 1 = some (1, 35) := by kernel_rfl
theorem el_61 : elT Tryz.prog 61 = some 28 := by kernel_rfl
theorem zq5 : zcu Tryz.prog 28 = some 24 := by kernel_rfl
theorem el_94 : elT Tryz.prog 94 = some 4 := by kernel_rfl
theorem qfb : zcu Tryz.prog 4 = some 1 := by kernel_rfl
theorem ap_24 : apT Tryz.prog 24 1 := zns el_24 sz_9 zw4 (by decide) ze_9 rfl
theorem ap_25 : apT Tryz.prog 25 1 := zns el_25 sz_3 zuv (by decide) ze_3 rfl
theorem ap_28 : apT Tryz.prog 28 2 := zns el_28 sz_35 zrg (by decide) ze_35 rfl
theorem ap_36 : apT Tryz.prog 36 3 := zns el_36 sz_57 zr2 (by decide) ze_57 rfl
theorem ap_61 : apT Tryz.prog 61 1 := zns el_61 sz_28 zq5 (by decide) ze_28 rfl
attribute [go_sem] ag_3 sz_3 in_3 ze_3 ag_4 sz_4 bo_4 ze_4 ag_5 sz_5 in_5 ag_9 sz_9 st_9 ze_9 ag_22 sz_22 el_22 nl_24 ag_24 sz_24 el_24 zw4 nl_25 ag_25 sz_25 el_25 zuv ag_27 sz_27 ze_27 pl_27 qfl qhd qhn nl_28 ag_28 sz_28 el_28 zrg ze_28 ag_35 sz_35 ze_35 pl_35 qgx qe3 ag_36 sz_36 el_36 zr2 ag_38 sz_38 ze_38 pl_38 qf2 ag_44 sz_44 in_44 ze_46 pl_46 qe1 qhe qgj ag_57 sz_57 ze_57 pl_57 qgw qg1 el_61 zq5 el_94 qfb ap_24 ap_25 ap_28 ap_36 ap_61
attribute [go_sem] Nat.reduceEqDiff reduceIte reduceCtorEq Nat.reduceAdd Nat.reduceMul Int.reduceLE Int.reduceNeg Int.reduceToNat Nat.reduceLeDiff Nat.reduceSub Nat.reduceLT Nat.le_refl Int.cast_ofNat_Int Int.reduceLT Int.reduceGT Int.reduceGE Int.reduceEq Int.reduceBEq Nat.reduceBEq Int.reduceBNe Int.reduceAdd Int.reduceSub gt_iff_lt ge_iff_le
end Go.Proofs.YtaaniggpnljckaaGreat
namespace Go.Proofs.YtaaniggpnljckaaGreat
set_option linter.unusedSimpArgs false
set_option linter.unusedVariables false
set_option linter.unusedSectionVars false
set_option maxRecDepth 4000
open Go.RowKit
abbrev Str := List UInt8
inductive Tm where
 | mk (name : Str) (args : List Tm)
def Tm.name : Tm -> Str | .mk n _ => n
def Tm.args : Tm -> List Tm | .mk _ xs => xs
theorem Tm.eta : ∀ a : Tm, Tm.mk a.name a.args = a | .mk _ _ => rfl
mutual
theorem zbm {P : Tm -> Prop} (h : ∀ n xs, (∀ x ∈ xs, P x) -> P (.mk n xs)) : ∀ a, P a
 | .mk n xs => h n xs (zuh h xs)
theorem zuh {P : Tm -> Prop} (h : ∀ n xs, (∀ x ∈ xs, P x) -> P (.mk n xs)) : ∀ xs : List Tm, ∀ x ∈ xs, P x
 | [], x, hx => absurd hx (by simp)
 | a :: xs, x, hx => (List.mem_cons.1 hx).elim (fun e => e ▸ zbm h a) (zuh h xs x)
end
mutual
def Tm.fold {α : Type} (f : Str -> List Tm -> List α -> α) : Tm -> α
 | .mk n xs => f n xs (Tm.folds f xs)
def Tm.folds {α : Type} (f : Str -> List Tm -> List α -> α) : List Tm -> List α
 | [] => []
 | a :: xs => Tm.fold f a :: Tm.folds f xs
end
theorem Tm.folds_map {α : Type} (f : Str -> List Tm -> List α -> α) (xs : List Tm) : Tm.folds f xs = xs.map (Tm.fold f) := by
 induction xs with
 | nil => rfl
 | cons a xs ih => rw [Tm.folds, ih]; rfl
theorem Tm.fold_eq {α : Type} (f : Str -> List Tm -> List α -> α) (a : Tm) : Tm.fold f a = f a.name a.args (a.args.map (Tm.fold f)) := by
 cases a; rw [Tm.fold, Tm.folds_map]; rfl
inductive Fm where
 | mk (op : Int) (atom : Tm) (var : Str) (parts : List Fm)
def Fm.op : Fm -> Int | .mk o _ _ _ => o
def tmC : Tm -> List T := Tm.fold fun n _ rs => [.str n, .sl 2 rs]
theorem zaa (a : Tm) : tmC a = [.str a.name, .sl 2 (a.args.map tmC)] := Tm.fold_eq _ a
abbrev tmD (a : Tm) : D := .agg (tmC a)
abbrev tmS (xs : List Tm) : T := .sl 2 (xs.map tmC)
abbrev iD (n : Int) : D := .one (.int .i64 n)
abbrev bD (b : Bool) : D := .one (.bool b)
abbrev sD (s : Str) : D := .one (.str s)
theorem zaf {α : Type} (f : α -> List T) (xs : List α) (k : Nat) (h : k < xs.length) : (xs.map f).getD k [] = f (xs[k]'h) := by simp [List.getD, h]
def Tm.wt : Tm -> Nat := Tm.fold fun n xs rs => n.length + xs.length + rs.sum
theorem Tm.wt_eq (a : Tm) : a.wt = a.name.length + a.args.length + (a.args.map Tm.wt).sum := Tm.fold_eq _ a
def zw9 {α : Type} (f : α -> Nat) (xs : List α) (k : Nat) : Nat := ((xs.take k).map f).sum
theorem zxy {α : Type} (f : α -> Nat) (xs : List α) : zw9 f xs 0 = 0 := by simp [zw9]
theorem zxz {α : Type} (f : α -> Nat) (xs : List α) (k : Nat) (h : k < xs.length) : zw9 f xs (k + 1) = zw9 f xs k + f xs[k] := by
 unfold zw9
 rw [List.take_succ_eq_append_getElem h, List.map_append, List.sum_append]; simp
theorem zwp {α : Type} (f : α -> Nat) (xs : List α) (k : Nat) : zw9 f xs k <= (xs.map f).sum := by
 unfold zw9
 conv => rhs; rw [<- List.take_append_drop k xs, List.map_append, List.sum_append]
 omega
theorem qbz {α : Type} (f : α -> Nat) (xs : List α) (k : Nat) (h : xs.length <= k) : zw9 f xs k = (xs.map f).sum := by
 unfold zw9
 rw [List.take_of_length_le h]
theorem zgq {α : Type} (f : α -> Nat) (xs : List α) : ∀ x ∈ xs, f x <= (xs.map f).sum := by
 induction xs with
 | nil => simp
 | cons a xs ih =>
  intro x hx
  rcases List.mem_cons.1 hx with rfl | hx
  ·simp
  ·have := ih x hx; simp; omega
noncomputable def same {α : Type} (a b : α) : Bool := @decide (a = b) (Classical.propDecidable _)
theorem zbe {α : Type} {a b : α} : same a b = true ↔ a = b := by simp [same]
theorem zod {α : Type} {a b : α} : same a b = false ↔ a ≠ b := by simp [same]
theorem zys {α : Type} (a : α) : same a a = true := by simp [same]
theorem zn3 {α : Type} (a b : α) (xs ys : List α) : same (a :: xs) (b :: ys) = (same a b && same xs ys) := by
 rw [Bool.eq_iff_iff, Bool.and_eq_true, zbe, zbe, zbe, List.cons.injEq]
theorem zrp {α : Type} : same ([] : List α) [] = true := zys _
theorem zaq {k : Nat} (h : k < 9223372036854775807) : IntKind.i64.wrap ((k : Int) + 1) = ((k + 1 : Nat) : Int) := zyb h
theorem int_eq {k : IntKind} {a b : Int} (h : a = b) : T.int k a = T.int k b := h ▸ rfl
end Go.Proofs.YtaaniggpnljckaaGreat
namespace Go.Proofs.YtaaniggpnljckaaGreat
set_option linter.unusedSimpArgs false
set_option linter.unusedVariables false
set_option linter.unusedSectionVars false
set_option maxRecDepth 4000
open Go.RowKit
theorem zjy {α : Type} (c : α -> List T) : ∀ (xs : List PD), (∀ x ∈ xs, ∃ a, x.cells = c a) -> ∃ l : List α, PD.rows xs = l.map c
 | [], _ => ⟨[], rfl⟩
 | x :: xs, h => by
  obtain ⟨a, ha⟩ := h x (by simp)
  obtain ⟨l, hl⟩ := zjy c xs fun y hy => h y (by simp [hy])
  exact ⟨a :: l, by rw [PD.rows, ha, hl]; rfl⟩
end Go.Proofs.YtaaniggpnljckaaGreat
namespace Go.Proofs.YtaaniggpnljckaaGreat
set_option linter.unusedSimpArgs false
set_option linter.unusedVariables false
set_option linter.unusedSectionVars false
set_option maxRecDepth 4000
def ab (n : Int) : Int := max n (-n)
abbrev Ris (c : List Int) : Prop := c.Pairwise fun a b => ab a < ab b
def zqs (S : List (List Int)) : Int := S.foldl (fun n c => c.foldl (fun m l => max m (ab l)) n) 0
structure Pre (a : List Int) (v : Int) : Prop where
 pos : 1 <= v
 bd : ∀ l ∈ a, 0 < ab l /\ ab l < v
 ris : Ris a
 all : ∀ w : Int, 1 <= w -> w < v -> (w ∈ a \/ -w ∈ a)
theorem Pre.put {a : List Int} {v x : Int} (h : Pre a v) (hx : ab x = v) : Pre (a ++ [x]) (v + 1) := by
 refine ⟨by have := h.pos; omega, fun l hl => ?_, ?_, fun w h1 h2 => ?_⟩
 ·rcases List.mem_append.1 hl with hl | hl
  ·have := h.bd l hl; omega
  ·rw [List.mem_singleton.1 hl]; have := h.pos; omega
 ·refine List.pairwise_append.2 ⟨h.ris, by simp, fun y hy z hz => ?_⟩
  rw [List.mem_singleton.1 hz]; have := h.bd y hy; omega
 ·by_cases hw : w = v
  ·have : x = w \/ x = -w := by unfold ab at hx; omega
   rcases this with rfl | rfl <;> simp
  ·rcases h.all w h1 (by omega) with h | h
   ·exact Or.inl (List.mem_append_left _ h)
   ·exact Or.inr (List.mem_append_left _ h)
end Go.Proofs.YtaaniggpnljckaaGreat
namespace Go.Proofs.YtaaniggpnljckaaGreat
set_option linter.unusedSimpArgs false
set_option linter.unusedVariables false
set_option linter.unusedSectionVars false
set_option maxRecDepth 4000
structure Ps where
 l : Int
 r : Int
 p : Int
 c : List Int
def ps0 : Ps := ⟨0, 0, 0, []⟩
end Go.Proofs.YtaaniggpnljckaaGreat
namespace Go.Proofs.YtaaniggpnljckaaGreat
set_option linter.unusedSimpArgs false
set_option linter.unusedVariables false
set_option linter.unusedSectionVars false
set_option maxRecDepth 4000
def ndB1 (n : Nat) (s : Ps) (k : Nat) (out : List Bool) : List Bool := if out.getD (n + k) false = true then (out.set s.l.toNat true).set s.r.toNat true else out
def ndB (n : Nat) (st : List Ps) : Nat -> List Bool -> List Bool
 | 0, out => out
 | k + 1, out => ndB n st k (ndB1 n (st.getD k ps0) k out)
def nd0 (n m : Nat) : List Bool := (List.replicate (n + m) false).set (n + m - 1) true
def nd (n : Nat) (st : List Ps) : List Bool := ndB n st st.length (nd0 n st.length)
end Go.Proofs.YtaaniggpnljckaaGreat
namespace Go.Proofs.YtaaniggpnljckaaGreat
set_option linter.unusedSimpArgs false
set_option linter.unusedVariables false
set_option linter.unusedSectionVars false
set_option maxRecDepth 4000
open Go
structure Cu where
 code : List UInt8
 pos : Nat
 seed : Int
def Cu.b (q : Cu) : Int := if q.pos < q.code.length then ((q.code.getD q.pos 0).toNat : Int) else 0
def Cu.sd (q : Cu) : Int := IntKind.u64.wrap (IntKind.u64.wrap (IntKind.u64.wrap (q.seed * 6364136223846793005) + IntKind.u64.wrap q.b) + 892892)
def Cu.nx (q : Cu) : Cu := ⟨q.code, q.pos + 1, q.sd⟩
def Cu.v (q : Cu) : Int := if q.pos + 1 <= q.code.length then q.b else IntKind.i64.wrap (IntKind.u64.wrap ((BitVec.ofInt 64 (q.sd.fdiv (2 ^ 40)) &&& BitVec.ofInt 64 255).toNat : Int))
theorem Cu.v_bd (q : Cu) : 0 <= q.v /\ q.v <= 255 := by
 unfold Cu.v
 split
 ·unfold Cu.b
  split
  ·have := (q.code.getD q.pos 0).toNat_lt; omega
  ·omega
 ·have h : (BitVec.ofInt 64 (q.sd.fdiv (2 ^ 40)) &&& BitVec.ofInt 64 255).toNat <= 255 := by
   rw [BitVec.toNat_and]
   exact Nat.and_le_right
  generalize (BitVec.ofInt 64 (q.sd.fdiv (2 ^ 40)) &&& BitVec.ofInt 64 255).toNat = n at h
  have e1 : IntKind.u64.wrap (n : Int) = n := by
   simp [IntKind.wrap, IntKind.bits, IntKind.signed]; omega
  rw [e1]
  have e2 : IntKind.i64.wrap (n : Int) = n := by
   simp [IntKind.wrap, IntKind.bits, IntKind.signed]; omega
  rw [e2]; omega
def Cu.pick (q : Cu) (n : Int) : Cu × Int := if n <= 1 then (q, 0) else (q.nx, q.v.tmod n)
theorem Cu.pick_bd (q : Cu) {n : Int} (h : 1 <= n) : 0 <= (q.pick n).2 /\ (q.pick n).2 < n := by
 unfold Cu.pick
 split
 ·dsimp only; omega
 ·have h2 := q.v_bd
  dsimp only
  rw [Int.tmod_eq_emod_of_nonneg h2.1]
  exact ⟨Int.emod_nonneg _ (by omega), Int.emod_lt_of_pos _ (by omega)⟩
theorem Cu.pick_pos (q : Cu) (n : Int) : q.pos <= (q.pick n).1.pos /\ (q.pick n).1.pos <= q.pos + 1 := by
 unfold Cu.pick Cu.nx
 split <;> simp
theorem Cu.pick_code (q : Cu) (n : Int) : (q.pick n).1.code = q.code := by
 unfold Cu.pick Cu.nx
 split <;> rfl
def litV (v x : Int) : Int := v - 2 * v * x
def clR (q : Cu) : Nat -> Cu × List Int
 | 0 => (q, [])
 | k + 1 => if ((clR q k).1.pick 3).2 = 0 then ((((clR q k).1.pick 3).1.pick 2).1, (clR q k).2 ++ [litV ((k : Int) + 1) ((((clR q k).1.pick 3).1.pick 2).2)]) else (((clR q k).1.pick 3).1, (clR q k).2)
def clD (q : Cu) (n : Nat) : Cu × List Int :=
 if (clR q n).2.take 3 = [] then
  if ((clR q n).1.pick 20).2 = 0 then (((clR q n).1.pick 20).1, [])
  else ((((((clR q n).1.pick 20).1.pick n).1.pick 2).1), [litV (1 + (((clR q n).1.pick 20).1.pick n).2) ((((clR q n).1.pick 20).1.pick n).1.pick 2).2])
 else ((clR q n).1, (clR q n).2.take 3)
theorem zwu (q : Cu) : ∀ k, q.pos <= (clR q k).1.pos /\ (clR q k).1.pos <= q.pos + 2 * k /\ (clR q k).1.code = q.code /\ (clR q k).2.length <= k
 | 0 => ⟨Nat.le_refl _, Nat.le_refl _, rfl, Nat.le_refl _⟩
 | k + 1 => by
  obtain ⟨h1, h2, h3, h4⟩ := zwu q k
  have p1 := (clR q k).1.pick_pos 3
  have p2 := ((clR q k).1.pick 3).1.pick_pos 2
  have c1 := (clR q k).1.pick_code 3
  have c2 := ((clR q k).1.pick 3).1.pick_code 2
  rw [clR]
  split
  ·refine ⟨by dsimp only; omega, by dsimp only; omega, ?_, ?_⟩
   ·exact (c2.trans c1).trans h3
   ·simp; exact h4
  ·exact ⟨by dsimp only; omega, by dsimp only; omega, c1.trans h3, by dsimp only; omega⟩
theorem zyg (q : Cu) (n : Nat) : q.pos <= (clD q n).1.pos /\ (clD q n).1.pos <= q.pos + 2 * n + 3 /\ (clD q n).1.code = q.code /\ (clD q n).2.length <= 3 := by
 obtain ⟨h1, h2, h3, h4⟩ := zwu q n
 have p1 := (clR q n).1.pick_pos 20
 have p2 := ((clR q n).1.pick 20).1.pick_pos n
 have p3 := (((clR q n).1.pick 20).1.pick n).1.pick_pos 2
 have c1 := (clR q n).1.pick_code 20
 have c2 := ((clR q n).1.pick 20).1.pick_code n
 have c3 := (((clR q n).1.pick 20).1.pick n).1.pick_code 2
 unfold clD
 split
 ·split
  ·exact ⟨by dsimp only; omega, by dsimp only; omega, c1.trans h3, by simp⟩
  ·exact ⟨by dsimp only; omega, by dsimp only; omega, ((c3.trans c2).trans c1).trans h3, by simp⟩
 ·refine ⟨by dsimp only; omega, by dsimp only; omega, h3, ?_⟩
  dsimp only
  rw [List.length_take]; omega
abbrev Lits (n : Int) (c : List Int) : Prop := ∀ l ∈ c, -n <= l /\ l <= n
theorem zxj {n v x : Int} (hv : 0 <= v /\ v <= n) (hx : 0 <= x /\ x < 2) : -n <= litV v x /\ litV v x <= n := by
 unfold litV
 have : x = 0 \/ x = 1 := by omega
 rcases this with rfl | rfl <;> omega
theorem zr7 (q : Cu) : ∀ k : Nat, Lits k (clR q k).2
 | 0 => fun l hl => by simp [clR] at hl
 | k + 1 => by
  have h := zr7 q k
  rw [clR]
  split
  ·intro l hl
   rcases List.mem_append.1 hl with hl | hl
   ·have := h l hl; omega
   ·rw [List.mem_singleton.1 hl]
    exact zxj (by omega) (Cu.pick_bd _ (by omega))
  ·intro l hl
   have := h l hl; omega
theorem qde (q : Cu) (n : Nat) (hn : 1 <= n) : Lits n (clD q n).2 := by
 unfold clD
 split
 ·split
  ·intro l hl; simp at hl
  ·intro l hl
   rw [List.mem_singleton.1 hl]
   have := Cu.pick_bd ((clR q n).1.pick 20).1 (n := n) (by omega)
   exact zxj (by omega) (Cu.pick_bd _ (by omega))
 ·intro l hl
  exact zr7 q n l (List.mem_of_mem_take hl)
structure GdS (B : Nat) (n : Int) (N : Nat) (q : Cu) (x : Cu × List (List Int)) : Prop where
 pos : q.pos <= x.1.pos /\ x.1.pos <= q.pos + B
 code : x.1.code = q.code
 lits : ∀ c ∈ x.2, Lits n c /\ c.length <= 3
 len : x.2.length <= N
theorem GdS.put {B N : Nat} {n : Int} {q : Cu} {x : Cu × List (List Int)} (h : GdS B n N q x) {m : Nat} (hm : 1 <= m) (hn : (m : Int) <= n) : GdS (B + (2 * m + 3)) n (N + 1) q ((clD x.1 m).1, x.2 ++ [(clD x.1 m).2]) := by
 obtain ⟨p1, p2, p3, p4⟩ := zyg x.1 m
 have hl := qde x.1 m hm
 have h0 := h.pos
 refine ⟨⟨by dsimp only; omega, by dsimp only; omega⟩, p3.trans h.code, fun c hc => ?_, by have := h.len; simp; omega⟩
 rcases List.mem_append.1 hc with hc | hc
 ·exact h.lits c hc
 ·rw [List.mem_singleton.1 hc]
  exact ⟨fun l hl' => by have := hl l hl'; omega, p4⟩
def ammQ (q : Cu) (l : List Int) : Cu × Int := ((q.pick l.length).1, l.getD (q.pick l.length).2.toNat 0)
end Go.Proofs.YtaaniggpnljckaaGreat
