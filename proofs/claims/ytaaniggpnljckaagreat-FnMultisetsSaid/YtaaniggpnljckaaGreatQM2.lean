/-
  The walk over plain data, and contracts of functions of the program and of its laws.
  Conditions: those that each theorem names.
-/
import Derived.Test.YtaaniggpnljckaaGreatQM1
namespace Go.Proofs.YtaaniggpnljckaaGreat
set_option linter.unusedSimpArgs false
set_option linter.unusedVariables false
set_option linter.unusedSectionVars false
set_option maxRecDepth 4000
open Go.RowKit
variable {P : Program}
def zcp (N : Nat) : Code -> Bool
 | .region _ ops _ => ops.all fun o => match o.dst with | some d => decide (d < N) | none => true
 | .seq a b => zcp N a && zcp N b
 | .cond _ a b => zcp N a && zcp N b
 | .block _ b => zcp N b
 | .loop b => zcp N b
 | _ => true
theorem zb9 {o : Oper} {a : Act} {w : World} {K K' : Act -> World -> Prop} {Q : Exit -> Act -> World -> Prop} (h : ∀ a w, K a w -> K' a w) (hh : o.wp P a w K (fun _ _ _ => False)) : o.wp P a w K' Q := by
 unfold Oper.wp at *
 generalize (execOp a.eval o).run P w = r at *
 cases r with
 | ok n w' =>
  cases n <;> simp only [Oper.upon] at hh ⊢ <;>
   first
    | exact h _ _ hh
    | exact Calls.mono hh (fun e w'' he => by cases e with
      | returned v => exact h _ _ he
      | panicked c => exact he.elim
      | outgrown => obtain ⟨_, _, hx⟩ := he; exact hx.elim)
    | exact Rows.mono hh (fun _ _ he => h _ _ he)
 | halt x w' => cases x <;> simp only [Oper.upon] at hh ⊢ <;> exact hh.elim
theorem zae.toX {o : Oper} {σ σ' : St} {K : St -> Prop} (h : zae P o σ σ') (k : K σ') : za9 P o σ K := fun n0 N g a w hR hn hd =>
 zb9 (fun _ _ ⟨g', h1, h2, h3, h4⟩ => ⟨σ', g', k, h1, h2, h3, h4⟩) (h n0 N g a w hR hn hd)
theorem za9.mono {o : Oper} {σ : St} {K K' : St -> Prop} (h : ∀ σ, K σ -> K' σ) (hh : za9 P o σ K) : za9 P o σ K' := fun n0 N g a w hR hn hd =>
 zb9 (fun _ _ ⟨σ', g', h0, h1, h2, h3, h4⟩ => ⟨σ', g', h σ' h0, h1, h2, h3, h4⟩) (hh n0 N g a w hR hn hd)
theorem zdu {o : Oper} {σ : St} {K : St -> Prop} (h : zbx P o σ K) : za9 P o σ K := by
 unfold zbx at h
 split at h
 ·exact h
 ·split at h
  ·exact zae.toX (zrh ‹_› h.1) h.2
  ·exact h.elim
def Ends (n0 : Nat -> Prop) (N : Nat) (w0 : World) (A0 : (Nat -> Prop) × RP) (Q : Exit -> St -> Prop) (e : Exit) (a : Act) (w : World) : Prop := ∃ σ g, Q e σ /\ Rel n0 N σ g a w /\ LtK n0 w /\ Bk n0 w0 w /\ (g.A0, g.R0) = A0
theorem zez {σ : St} {d : Nat} {v : V} (h : σ.sl d = v) : σ.put (some d) v = σ := by
 obtain ⟨sl, bx, ev⟩ := σ
 unfold St.put
 simp only [St.mk.injEq, and_true]
 funext i
 by_cases hi : i = d
 ·subst hi; rw [zac]; exact h.symm
 ·rw [zah _ _ hi]
theorem zm8 {ops : Array Oper} {K : St -> Prop} {n0 : Nat -> Prop} {N : Nat} {w0 : World} {A0 : (Nat -> Prop) × RP} {R : Exit -> Act -> World -> Prop} (hR : ∀ a w σ g, K σ -> Rel n0 N σ g a w -> LtK n0 w -> Bk n0 w0 w -> (g.A0, g.R0) = A0 -> R .normal a w) :
  ∀ (k i : Nat), i + k = ops.size -> (∀ o ∈ ops.toList, ∀ d, o.dst = some d -> d < N) -> ∀ (σ : St) (g : Gh) (a : Act) (w : World), zbj P ops (ops.toList.drop i) σ K -> Rel n0 N σ g a w -> LtK n0 w -> Bk n0 w0 w -> (g.A0, g.R0) = A0 -> wpOps P ops R (List.range' i k) a w
 | 0, i, hi, hd, σ, g, a, w, h, hr, hn, hb, hA => by
  have : ops.toList.drop i = [] := List.drop_of_length_le (by simp; omega)
  rw [this] at h
  exact hR a w σ g h hr hn hb hA
 | k + 1, i, hi, hd, σ, g, a, w, h, hr, hn, hb, hA => by
  have hlt : i < ops.size := by omega
  have hcons : ops.toList.drop i = ops[i] :: ops.toList.drop (i + 1) := by
   rw [List.drop_eq_getElem_cons (by simpa using hlt)]; rfl
  rw [hcons] at h
  rw [show List.range' i (k + 1) = i :: List.range' (i + 1) k from rfl, wpOps_cons]
  have ho : ops[i]? = some ops[i] := by simp [hlt]
  have hdi : ∀ d, ops[i].dst = some d -> d < N := hd _ (by simp)
  have next : ∀ σ' a' w', (∃ g', Rel n0 N σ' g' a' w' /\ Bk n0 w w' /\ g'.A0 = g.A0 /\ g'.R0 = g.R0) -> zbj P ops (ops.toList.drop (i + 1)) σ' K -> wpOps P ops R (List.range' (i + 1) k) a' w' := by
   rintro σ' a' w' ⟨g', k1, k2, k3, k4⟩ hK
   exact zm8 hR k (i + 1) (by omega) hd σ' g' a' w' hK k1 (hn.mono k2.size) (hb.trans k2) (by rw [k3, k4]; exact hA)
  have run : ∀ σ0, σ0 = σ -> zbx P ops[i] σ0 (fun σ' => zbj P ops (ops.toList.drop (i + 1)) σ' K) -> ops[i].wp P a w (wpOps P ops R (List.range' (i + 1) k)) R := fun σ0 e0 h1 => by
   subst e0
   exact zb9 (fun a' w' ⟨σ', g', h0, hh⟩ => next σ' a' w' ⟨g', hh⟩ h0) (zdu h1 n0 N g a w hr hn hdi)
  unfold wpOp
  simp only [ho]
  unfold zbj exG at h
  split at h
  ·rename_i hg
   have : Region.wanted ops[i] (yielded ops a.tmps) = true := by simp [Region.wanted, hg]
   rw [if_pos this]
   exact Or.inl (run σ rfl h)
  ·rename_i j want hg
   split at h
   ·rename_i d hdj
    split at h
    ·rename_i c hc
     have hv := hr.slots d
     rw [hc] at hv
     simp only [VR, CR, zai] at hv
     have hy : yielded ops a.tmps j = some c := by
      unfold yielded
      rw [hdj]
      simp only [Option.bind_some]
      cases ht : a.tmps[d]? with
      | none => rw [Array.getD_eq_getD_getElem?, ht] at hv; exact absurd hv (g.R0.nb _ _)
      | some u => rw [Array.getD_eq_getD_getElem?, ht] at hv; simp only [Option.getD_some] at hv; subst hv; rfl
     have hw : Region.wanted ops[i] (yielded ops a.tmps) = (c == want) := by
      unfold Region.wanted
      rw [hg]
      simp only [hy]
      cases c <;> cases want <;> rfl
     rw [hw]
     by_cases hcw : c = want
     ·subst hcw
      simp only [beq_self_eq_true, if_true]
      exact Or.inl (run _ (zez hc) (h.1 rfl))
     ·have hne : (c == want) = false := by simpa using hcw
      rw [hne]
      simp only [Bool.false_eq_true, if_false]
      have hnot : c = !want := by cases c <;> cases want <;> simp_all
      have hh := h.2 hnot
      rw [<- hnot, zez hc] at hh
      exact next _ _ _ ⟨g, hr.put _ (x := .tup []) ⟨[], rfl, rfl⟩ hdi, Bk.refl _ _, rfl, rfl⟩ hh
    ·rename_i xs hc
     have hv := hr.slots d
     rw [hc] at hv
     obtain ⟨vs, hv, _⟩ := hv
     have hy : yielded ops a.tmps j = none := by
      unfold yielded
      rw [hdj]
      simp only [Option.bind_some]
      cases ht : a.tmps[d]? with
      | none => rfl
      | some u => rw [Array.getD_eq_getD_getElem?, ht] at hv; simp only [Option.getD_some] at hv; subst hv; rfl
     have hw : Region.wanted ops[i] (yielded ops a.tmps) = false := by
      unfold Region.wanted
      rw [hg]
      simp only [hy]
      rfl
     rw [hw]
     simp only [Bool.false_eq_true, if_false]
     exact next _ _ _ ⟨g, hr.put _ (x := .tup []) ⟨[], rfl, rfl⟩ hdi, Bk.refl _ _, rfl, rfl⟩ h
    ·exact h.elim
   ·exact h.elim
def zdr (σ σ' : St) (g : Gh) : Gh := { g with
 ψ := fun e n => match σ.ev e, σ'.ev e with | some x, some x' => if n = x'.gen then g.ψ e x.gen else g.ψ e n | none, some _ => .slice none 0 0 | _, _ => g.ψ e n
 φ := fun e => match σ.ev e, σ'.ev e with | none, some _ => [] | _, _ => g.φ e }
theorem Rel.weak {n0 : Nat -> Prop} {N : Nat} {σ σ' : St} {g : Gh} {a : Act} {w : World} (h : Rel n0 N σ g a w) (k : Weak σ σ') : Rel n0 N σ' (zdr σ σ' g) a w := by
 have hb : ∀ b, σ'.bx b ≠ none -> σ.bx b ≠ none := fun b hb => by
  obtain ⟨cs, hc⟩ := Option.ne_none_iff_exists'.1 hb
  obtain ⟨cs0, h1, _⟩ := k.bx b cs hc
  rw [h1]; simp
 have hφ : ∀ e x x', σ.ev e = some x -> σ'.ev e = some x' -> (zdr σ σ' g).φ e = g.φ e := fun e x x' h1 h2 => by
  simp [zdr, h1, h2]
 have hφn : ∀ e x', σ.ev e = none -> σ'.ev e = some x' -> (zdr σ σ' g).φ e = [] := fun e x' h1 h2 => by
  simp [zdr, h1, h2]
 have hψn : ∀ e x' n, σ.ev e = none -> σ'.ev e = some x' -> (zdr σ σ' g).ψ e n = .slice none 0 0 := fun e x' n h1 h2 => by
  simp [zdr, h1, h2]
 have hon : ∀ e, σ'.On e -> (σ.On e /\ (zdr σ σ' g).φ e = g.φ e) \/ (zdr σ σ' g).φ e = [] := fun e he => by
  obtain ⟨x, hx, ho⟩ := he
  rcases k.ev e x hx with ⟨x0, h1, h2⟩ | ⟨h1, h2, _⟩
  ·exact Or.inl ⟨⟨x0, h1, by rw [h2] at ho; exact ho⟩, hφ e x0 x h1 hx⟩
  ·exact Or.inr (hφn e x h1 hx)
 have hin : ∀ e, σ'.On e -> ∀ b ∈ (zdr σ σ' g).φ e, σ.On e /\ b ∈ g.φ e := fun e he b hb => by
  rcases hon e he with ⟨h1, h2⟩ | h1
  ·exact ⟨h1, h2 ▸ hb⟩
  ·rw [h1] at hb; simp at hb
 have hf : ∀ b, Fix σ g w b -> Fix σ' (zdr σ σ' g) w b := fun b hf => ⟨fun j hj => hf.1 j (hb j hj), fun e x hee ho hh => by
  rcases hon e ⟨x, hee, ho⟩ with ⟨⟨x0, h1, h2⟩, h3⟩ | h3
  ·rw [h3] at hh; exact hf.2.1 e x0 h1 h2 hh
  ·rw [h3] at hh; exact absurd hh (by simp), hf.2.2⟩
 have hsame : ∀ b, Fix σ g w b -> w.heap[b]? = w.heap[b]? := fun _ _ => rfl
 have hψ : ∀ e x x', σ.ev e = some x -> σ'.ev e = some x' -> (zdr σ σ' g).ψ e x'.gen = g.ψ e x.gen := fun e x x' h1 h2 => by
  simp [zdr, h1, h2]
 have hfr : ∀ b, zbr σ g w b -> ∀ e, σ'.On e -> b ∉ (zdr σ σ' g).φ e := fun b hb e he hm => hb.2 e (hin e he b hm).1 (hin e he b hm).2
 have hbb := hb
 have hgone : ∀ e, σ.On e -> σ'.ev e = none -> ∀ b ∈ g.φ e, b < w.heap.size -> zbr σ' (zdr σ σ' g) w b := fun e ho he b hb hl => by
  have hne : ∀ e', σ'.On e' -> b ∉ (zdr σ σ' g).φ e' := fun e' he' hm => by
   obtain ⟨h1, h2⟩ := hin e' he' b hm
   refine h.apart e e' ho h1 (fun e => ?_) b hb h2
   subst e
   obtain ⟨x, hx, _⟩ := he'
   rw [he] at hx; cases hx
  exact ⟨⟨fun j hj hjb => h.ebx e j ho (hbb j hj) (by rw [show g.β j = b from hjb]; exact hb), fun e' x hx ho' hh => hne e' ⟨x, hx, ho'⟩ (List.mem_of_mem_head? hh), hl, (h.ebase e ho b hb).1⟩, hne⟩
 have cr : ∀ c c' v, CW σ σ' c c' -> CR σ g w c v -> CR σ' (zdr σ σ' g) w c' v := by
  intro c c' v hw hc
  unfold CW at hw
  split at hw
  ·trivial
  ·subst hw; exact zai.keep hsame hf _ v hc
  ·subst hw; exact zai.keep (fun b hb => hsame b hb.1) (fun b hb => hf b hb.1) _ v hc
  ·subst hw; exact zai.keep (fun b hb => hsame b hb.1) (fun b hb => ⟨hf b hb.1, hfr b hb⟩) _ v hc
  ·subst hw; unfold CR zai at hc; exact hc.1
  ·exact hc
  ·rename_i s e' s'
   obtain ⟨h1, h2⟩ := hw
   unfold zlh at h2
   obtain ⟨x', hx', rfl⟩ := Option.map_eq_some_iff.1 h2
   exact ⟨by rw [hψn e' x' _ h1 hx']; exact hc, x', hx', Nat.le_refl _⟩
  ·rename_i e s e' s'
   obtain ⟨rfl, h1, h2⟩ := hw
   unfold zlh at h1 h2
   obtain ⟨x, hx, rfl⟩ := Option.map_eq_some_iff.1 h1
   obtain ⟨x', hx', rfl⟩ := Option.map_eq_some_iff.1 h2
   exact ⟨by rw [hψ e x x' hx hx']; exact hc.1, x', hx', Nat.le_refl _⟩
  ·obtain ⟨x, hx, rfl, ho, rfl⟩ := zal hw
   have := (h.offs _ x hx ho).1
   rw [<- hc.1] at this
   exact zai.keep hsame hf _ v this
  ·obtain ⟨x, hx, rfl, hd, ho, hn, rfl⟩ := zal hw
   obtain ⟨ao, cap, e1, e2, e3, e4⟩ := h.evs _ x hx ho
   rw [<- hc.1] at e1
   show zai _ _ _ _
   unfold zai
   refine ⟨ao, cap, e1, e2, e3, ?_⟩
   rcases e4 with ⟨_, _, e4, _⟩ | ⟨b, cells, ty, fps, k1, k2, k3, k4, k5⟩
   ·exact Or.inl e4
   ·rw [if_pos hd] at k5
    have hl : ∀ b' ∈ fps, b' < w.heap.size := zag.lt cells 0 x.sz x.rows fps k5
    exact Or.inr ⟨b, 0, k1, hgone _ ⟨x, hx, ho⟩ hn b (by rw [k2]; simp) (Array.getElem?_eq_some_iff.1 k3).1, zag.rep b cells ty k3 0 x.sz x.rows fps k5 fun b' hb' => hgone _ ⟨x, hx, ho⟩ hn b' (by rw [k2]; simp [hb']) (hl b' hb')⟩
  ·obtain ⟨rfl, rfl, h3⟩ := hw; exact ⟨hc.1, h3⟩
  ·obtain ⟨rfl, rfl⟩ := hw
   obtain ⟨b, q, h1, h2, h3⟩ := hc
   exact ⟨b, q, h1, hf b h2, zaz.keep hsame hf b rfl q _ h3⟩
  ·obtain ⟨rfl, rfl⟩ := hw
   obtain ⟨b, q, h1, h2, h3⟩ := hc
   exact ⟨b, q, h1, ⟨hf b h2.1, hfr b h2⟩, zaz.keep (fun b hb => hsame b hb.1) (fun b hb => ⟨hf b hb.1, hfr b hb⟩) b rfl q _ h3⟩
  ·obtain ⟨rfl, rfl⟩ := hw
   obtain ⟨b, q, h1, h2, h3⟩ := hc
   exact ⟨b, q, h1, hf b h2.1, zaz.keep (fun b hb => hsame b hb.1) (fun b hb => hf b hb.1) b rfl q _ h3⟩
  ·obtain ⟨rfl, rfl, h3⟩ := hw; exact ⟨hc.1, zh0 h3⟩
  ·subst hw; exact hc
  ·rename_i e s z o e' s' z' o'
   obtain ⟨rfl, rfl, rfl, h1, h2⟩ := hw
   unfold zlh at h1 h2
   obtain ⟨x, hx, rfl⟩ := Option.map_eq_some_iff.1 h1
   obtain ⟨x', hx', rfl⟩ := Option.map_eq_some_iff.1 h2
   obtain ⟨b, n, c, q1, q2, q3, q4⟩ := hc
   exact ⟨b, n, c, by rw [hψ e x x' hx hx']; exact q1, q2, q3, x', hx', Nat.le_refl _⟩
  ·exact hw.elim
 have crs : ∀ cs cs' vs, CWs σ σ' cs cs' -> CRs σ g w cs vs -> CRs σ' (zdr σ σ' g) w cs' vs := by
  intro cs
  induction cs with
  | nil => intro cs' vs hw hc; cases cs' with
   | nil => exact hc
   | cons c cs' => exact hw.elim
  | cons c cs ih =>
   intro cs' vs hw hc
   cases cs' with
   | nil => exact hw.elim
   | cons c' cs' =>
    obtain ⟨v, vs', rfl, h1, h2⟩ := hc
    exact ⟨v, vs', rfl, cr c c' v hw.1 h1, ih cs' vs' hw.2 h2⟩
 refine ⟨h.defers, h.size, h.anew, fun i => ?_, fun b cs hbb => ?_, fun b hbb => h.base b (hb b hbb), fun b b' h1 h2 => h.inj b b' (hb b h1) (hb b' h2), fun e x hx ho => ?_, fun e x hx ho => ?_, fun e n => ?_, fun e hx b hb' => h.ebase e (hin e hx b hb').1 b (hin e hx b hb').2, fun e hx b hb' => ?_, fun e hx => ?_, fun e e' h1 h2 hne b hb1 hb2 => h.apart e e' (hin e h1 b hb1).1 (hin e' h2 b hb2).1 hne b (hin e h1 b hb1).2 (hin e' h2 b hb2).2, fun e j h1 h2 hm => h.ebx e j (hin e h1 _ hm).1 (hb j h2) (hin e h1 _ hm).2⟩
 ·have hw := k.sl i
  have hv := h.slots i
  generalize σ.sl i = x at hw hv
  generalize σ'.sl i = y at hw
  cases y with
  | one c' =>
   cases x with
   | one c => exact cr c c' _ (by cases c' <;> first | exact hw | trivial) hv
   | agg cs => cases c' <;> first | trivial | exact hw.elim
   | tup xs => cases c' <;> first | trivial | exact hw.elim
  | agg cs' =>
   cases x with
   | one c => exact hw.elim
   | agg cs => obtain ⟨u, u1, u2⟩ := hv; exact ⟨u, u1, crs _ _ _ hw u2⟩
   | tup xs => exact hw.elim
  | tup xs' => cases x <;> exact hw.elim
 ·obtain ⟨cs0, k1, k2⟩ := k.bx b cs hbb
  obtain ⟨vs, ty, j1, j2⟩ := h.boxes b cs0 k1
  exact ⟨vs, ty, j1, crs _ _ _ k2 j2⟩
 ·rcases k.ev e x hx with ⟨x0, h1, h2⟩ | ⟨h1, h2, _⟩
  ·have ho0 : x0.on = true := by rw [h2] at ho; exact ho
   obtain ⟨ao, cap, e1, e2, e3, e4⟩ := h.evs e x0 h1 ho0
   rw [hψ e x0 x h1 hx, hφ e x0 x h1 hx]
   rw [h2]
   refine ⟨ao, cap, e1, e2, e3, ?_⟩
   rcases e4 with e4 | ⟨b, cells, ty, fps, k1, k2, k3, k4, k5⟩
   ·exact Or.inl e4
   ·refine Or.inr ⟨b, cells, ty, fps, k1, k2, k3, k4, ?_⟩
    split at k5
    ·rw [if_pos ‹_›]; exact k5
    ·rw [if_neg ‹_›]; exact ⟨k5.1, zak.keep hsame hf b rfl 0 x0.sz x0.rows k5.2⟩
  ·rw [hψn e x _ h1 hx, hφn e x h1 hx]
   exact ⟨none, 0, by rw [h2]; rfl, by rw [h2]; simp, by simp, Or.inl ⟨rfl, rfl, h2, rfl⟩⟩
 ·rcases k.ev e x hx with ⟨x0, h1, h2⟩ | ⟨_, _, h3⟩
  ·have ho0 : x0.on = false := by rw [h2] at ho; exact ho
   obtain ⟨j1, j2⟩ := h.offs e x0 h1 ho0
   rw [hψ e x0 x h1 hx, h2]
   exact ⟨zai.keep hsame hf _ _ j1, j2⟩
  ·rw [h3] at ho; cases ho
 ·unfold zdr
  simp only
  split
  ·split
   ·exact h.slc _ _
   ·exact h.slc _ _
  ·exact ⟨_, _, _, rfl⟩
  ·exact h.slc _ _
 ·rcases hon e hx with ⟨h1, h2⟩ | h1
  ·rw [h2] at hb'; exact h.etop e h1 b hb'
  ·rw [h1] at hb'; cases hb'
 ·rcases hon e hx with ⟨h1, h2⟩ | h1
  ·rw [h2]; exact h.nodup e h1
  ·rw [h1]; exact List.nodup_nil
theorem Weak.wk {σ σ' : St} (k : Weak σ σ') : Wk σ σ' := fun n0 N g a w hR => ⟨zdr σ σ' g, hR.weak k, rfl, rfl⟩
theorem zr0 {c : Code} {Q : Exit -> Act -> World -> Prop} (I : Nat -> Act -> World -> Prop) (round : ∀ n a w, I n a w -> c.wp P (Exit.then (fun a' w' => ∃ m, m < n /\ I m a' w') Q) a w) {a : Act} {w : World} {n : Nat} (h₀ : I n a w) : (Code.loop c).wp P Q a w := by
 intro b k cs
 have key : ∀ n a w, I n a w -> ∃ e a' w', Q e a' w' /\ Arrives P (lone (b.at a (.code c :: .inLoop c :: k)) cs w) b k cs e a' w' := by
  intro n
  induction n using Nat.strongRecOn with
  | _ n ih =>
   intro a w hI
   obtain ⟨e, a₁, w₁, hq, harr⟩ := round n a w hI b (.inLoop c :: k) cs
   cases e with
   | normal =>
    obtain ⟨m, hlt, hI₁⟩ := hq
    obtain ⟨e₂, a₂, w₂, hq₂, harr₂⟩ := ih m hlt a₁ w₁ hI₁
    exact ⟨e₂, a₂, w₂, hq₂, .of_steps (Steps.trans harr (.one step_inLoop)) harr₂⟩
   | exit id => exact ⟨_, a₁, w₁, hq, .pass (x := .inLoop c) rfl (fun _ _ => .inl (by simp)) harr⟩
   | goto l => exact ⟨_, a₁, w₁, hq, .pass (x := .inLoop c) rfl (fun _ _ => .inl (by simp)) harr⟩
   | ret => exact ⟨_, a₁, w₁, hq, .pass (x := .inLoop c) rfl (fun _ _ => .inl (by simp)) harr⟩
   | panic ch => exact ⟨_, a₁, w₁, hq, .pass (x := .inLoop c) rfl (fun _ _ => .inl (by simp)) harr⟩
   | outgrown => exact ⟨_, a₁, w₁, hq, .pass (x := .inLoop c) rfl (fun _ _ => .inl (by simp)) harr⟩
 obtain ⟨e, a', w', hq, harr⟩ := key n a w h₀
 exact ⟨e, a', w', hq, .of_steps (.one step_loop) harr⟩
theorem zbi {n0 : Nat -> Prop} {N : Nat} {w0 : World} {A0 : (Nat -> Prop) × RP} : ∀ (c : Code) (σ : St) (Q : Exit -> St -> Prop), zcp N c = true -> zje P c σ Q -> ∀ (g : Gh) (a : Act) (w : World), Rel n0 N σ g a w -> LtK n0 w -> Bk n0 w0 w -> (g.A0, g.R0) = A0 -> c.wp P (Ends n0 N w0 A0 Q) a w
 | .skip, σ, Q, _, h, g, a, w, hr, hn, hb, hA => wp_skip ⟨σ, g, h, hr, hn, hb, hA⟩
 | .ret, σ, Q, _, h, g, a, w, hr, hn, hb, hA => wp_ret ⟨σ, g, h, hr, hn, hb, hA⟩
 | .exit id, σ, Q, _, h, g, a, w, hr, hn, hb, hA => wp_exit ⟨σ, g, h, hr, hn, hb, hA⟩
 | .seq x y, σ, Q, hd, h, g, a, w, hr, hn, hb, hA => by
  simp only [zcp, Bool.and_eq_true] at hd
  refine wp_seq (wp_mono (zbi x σ _ hd.1 h g a w hr hn hb hA) fun e a' w' hq => ?_)
  obtain ⟨σ', g', h1, h2, h3, h4, h5⟩ := hq
  cases e with
  | normal => exact zbi y σ' Q hd.2 h1 g' a' w' h2 h3 h4 h5
  | exit i => exact ⟨σ', g', h1, h2, h3, h4, h5⟩
  | goto l => exact ⟨σ', g', h1, h2, h3, h4, h5⟩
  | ret => exact ⟨σ', g', h1, h2, h3, h4, h5⟩
  | panic ch => exact ⟨σ', g', h1, h2, h3, h4, h5⟩
  | outgrown => exact ⟨σ', g', h1, h2, h3, h4, h5⟩
 | .cond c x y, σ, Q, hd, h, g, a, w, hr, hn, hb, hA => by
  simp only [zcp, Bool.and_eq_true] at hd
  unfold zje at h
  have hv := hr.get P 0 c
  split at h
  ·rename_i t hc
   rw [hc] at hv
   simp only [VR, CR, zai] at hv
   exact wp_cond_split hv (fun ht => zbi x σ Q hd.1 (h.1 ht) g a w hr hn hb hA) (fun ht => zbi y σ Q hd.2 (h.2 ht) g a w hr hn hb hA)
  ·exact h.elim
 | .block id b, σ, Q, hd, h, g, a, w, hr, hn, hb, hA => by
  refine wp_block (wp_mono (zbi b σ _ hd h g a w hr hn hb hA) fun e a' w' hq => ?_)
  obtain ⟨σ', g', h1, h2, h3, h4, h5⟩ := hq
  cases e with
  | exit i =>
   simp only [Exit.inBlock]
   simp only at h1
   split at h1
   ·rw [if_pos ‹_›]; exact ⟨σ', g', h1, h2, h3, h4, h5⟩
   ·rw [if_neg ‹_›]; exact ⟨σ', g', h1, h2, h3, h4, h5⟩
  | normal => exact ⟨σ', g', h1, h2, h3, h4, h5⟩
  | goto l => exact ⟨σ', g', h1, h2, h3, h4, h5⟩
  | ret => exact ⟨σ', g', h1, h2, h3, h4, h5⟩
  | panic ch => exact ⟨σ', g', h1, h2, h3, h4, h5⟩
  | outgrown => exact ⟨σ', g', h1, h2, h3, h4, h5⟩
 | .region id ops false, σ, Q, hd, h, g, a, w, hr, hn, hb, hA => by
  refine wp_region ?_
  have hd' : ∀ o ∈ ops.toList, ∀ d, o.dst = some d -> d < N := fun o ho d hdd => by
   simp only [zcp, Array.all_eq_true_iff_forall_mem] at hd
   have := hd o (by simpa using ho)
   rw [hdd] at this
   simpa using this
  rw [List.range_eq_range']
  exact zm8 (fun a w σ g h1 h2 h3 h4 h5 => ⟨σ, g, h1, h2, h3, h4, h5⟩) ops.size 0 (by omega) hd' σ g a w (by simpa [zje] using h) hr hn hb hA
 | .loop b, σ, Q, hd, h, g, a, w, hr, hn, hb, hA => by
  unfold zje at h
  obtain ⟨I, ⟨n, σ0, hw0, h0⟩, hround⟩ := h
  refine zr0 (fun n a w => ∃ σ1 g1, I n σ1 /\ Rel n0 N σ1 g1 a w /\ LtK n0 w /\ Bk n0 w0 w /\ (g1.A0, g1.R0) = A0) ?_ (n := n) (by obtain ⟨g0, r1, r2, r3⟩ := hw0 _ _ _ _ _ hr; exact ⟨σ0, g0, h0, r1, hn, hb, by rw [r2, r3]; exact hA⟩)
  rintro n a w ⟨σ1, g1, k1, k2, k3, k4, k5⟩
  refine wp_mono (zbi b σ1 _ hd (hround n σ1 k1) g1 a w k2 k3 k4 k5) fun e a' w' hq => ?_
  obtain ⟨σ', g', h1, h2, h3, h4, h5⟩ := hq
  cases e with
  | normal =>
   obtain ⟨m, σ2, hlt, hwk, hI⟩ := h1
   obtain ⟨g2, r1, r2, r3⟩ := hwk _ _ _ _ _ h2
   exact ⟨m, hlt, σ2, g2, hI, r1, h3, h4, by rw [r2, r3]; exact h5⟩
  | exit i => exact ⟨σ', g', h1, h2, h3, h4, h5⟩
  | goto l => exact ⟨σ', g', h1, h2, h3, h4, h5⟩
  | ret => exact ⟨σ', g', h1, h2, h3, h4, h5⟩
  | panic ch => exact ⟨σ', g', h1, h2, h3, h4, h5⟩
  | outgrown => exact ⟨σ', g', h1, h2, h3, h4, h5⟩
 | .region id ops true, σ, Q, hd, h, g, a, w, hr, hn, hb, hA => by
  have hd' : ∀ o ∈ ops, ∀ d, o.dst = some d -> d < N := fun o ho d hdd => by
   simp only [zcp, Array.all_eq_true_iff_forall_mem] at hd
   have := hd o ho
   rw [hdd] at this
   simpa using this
  refine wp_mono (h n0 N g a w hr hn hd') fun e a' w' hq => ?_
  obtain ⟨rfl, σ', g', k1, k2, k3, k4, k5, k6⟩ := hq
  exact ⟨σ', g', k1, k2, k3, hb.trans k4, by rw [k5, k6]; exact hA⟩
 | .rangeFunc .., _, _, _, h, _, _, _, _, _, _, _ => h.elim
 | .scope _, _, _, _, h, _, _, _, _, _, _, _ => h.elim
 | .label _, _, _, _, h, _, _, _, _, _, _, _ => h.elim
 | .goto _, _, _, _, h, _, _, _, _, _, _, _ => h.elim
 | .refuse _, _, _, _, h, _, _, _, _, _, _, _ => h.elim
def qai (P : Program) {X : Type} (I : X -> St) (Pr : X -> Prop) (μ : X -> Nat) (x : X) (ks : List Fr) (Q : Exit -> St -> Prop) (e : Exit) (σ' : St) : Prop := match e with
 | .normal => ∃ x', Pr x' /\ μ x' < μ x /\ Wk σ' (I x')
 | e => rt P e ks Q σ'
theorem znw {X : Type} (I : X -> St) (Pr : X -> Prop) (μ : X -> Nat) (x : X) (ks : List Fr) (Q : Exit -> St -> Prop) (σ : St) : qai P I Pr μ x ks Q .normal σ = ∃ x', Pr x' /\ μ x' < μ x /\ Wk σ (I x') := rfl
theorem zsg {X : Type} (I : X -> St) (Pr : X -> Prop) (μ : X -> Nat) (x : X) (ks : List Fr) (Q : Exit -> St -> Prop) (σ : St) (i : Nat) : qai P I Pr μ x ks Q (.exit i) σ = rt P (.exit i) ks Q σ := rfl
theorem zus {X : Type} (I : X -> St) (Pr : X -> Prop) (μ : X -> Nat) (x : X) (ks : List Fr) (Q : Exit -> St -> Prop) (σ : St) : qai P I Pr μ x ks Q .ret σ = rt P .ret ks Q σ := rfl
theorem zg1 {o : Oper} {σ : St} {K K' : St -> Prop} (h : ∀ σ, K σ -> K' σ) (hh : zbx P o σ K) : zbx P o σ K' := by
 unfold zbx at *
 split
 ·rw [if_pos ‹_›] at hh; exact hh.mono h
 ·rw [if_neg ‹_›] at hh
  split
  ·rename_i hs; rw [hs] at hh; exact ⟨hh.1, h _ hh.2⟩
  ·rename_i hs; rw [hs] at hh; exact hh
theorem zzx {ops : Array Oper} {o : Oper} {σ : St} {K K' : St -> Prop} (h : ∀ σ, K σ -> K' σ) (hh : exG P ops o σ K) : exG P ops o σ K' := by
 unfold exG at *
 split
 ·rename_i hg; rw [hg] at hh; exact zg1 h hh
 ·rename_i j want hg
  rw [hg] at hh
  simp only at hh
  split
  ·rename_i d hd
   rw [hd] at hh
   simp only at hh
   split
   ·rename_i c hc
    rw [hc] at hh
    exact ⟨fun hcw => zg1 h (hh.1 hcw), fun hcw => h _ (hh.2 hcw)⟩
   ·rename_i hc
    rw [hc] at hh
    exact h _ hh
   ·rename_i hc hc2
    split at hh
    ·exact absurd ‹_› (hc _)
    ·exact absurd ‹_› (hc2 _)
    ·exact hh
  ·rename_i hd; rw [hd] at hh; exact hh
theorem zgx {ops : Array Oper} {K K' : St -> Prop} (h : ∀ σ, K σ -> K' σ) : ∀ (os : List Oper) (σ : St), zbj P ops os σ K -> zbj P ops os σ K'
 | [], σ, hh => h σ hh
 | o :: os, σ, hh => zzx (fun σ' h' => zgx h os σ' h') hh
theorem zcm : ∀ {c : Code} {σ : St} {Q Q' : Exit -> St -> Prop}, (∀ e σ, Q e σ -> Q' e σ) -> zje P c σ Q -> zje P c σ Q'
 | .skip, σ, Q, Q', h, hh => h _ _ hh
 | .ret, σ, Q, Q', h, hh => h _ _ hh
 | .exit _, σ, Q, Q', h, hh => h _ _ hh
 | .region _ ops false, σ, Q, Q', h, hh => by unfold zje at *; exact zgx (h .normal) _ _ hh
 | .seq x y, σ, Q, Q', h, hh => by
  unfold zje at *
  refine zcm (fun e σ' h' => ?_) hh
  cases e with
  | normal => exact zcm h h'
  | exit i => exact h _ _ h'
  | goto l => exact h _ _ h'
  | ret => exact h _ _ h'
  | panic ch => exact h _ _ h'
  | outgrown => exact h _ _ h'
 | .cond c x y, σ, Q, Q', h, hh => by
  unfold zje at *
  split
  ·rename_i hc; rw [hc] at hh; exact ⟨fun ht => zcm h (hh.1 ht), fun ht => zcm h (hh.2 ht)⟩
  ·rename_i hc
   split at hh
   ·exact absurd ‹_› (hc _)
   ·exact hh
 | .block id b, σ, Q, Q', h, hh => by
  unfold zje at *
  refine zcm (fun e σ' h' => ?_) hh
  cases e with
  | exit i =>
   simp only at h' ⊢
   split
   ·rw [if_pos ‹_›] at h'; exact h _ _ h'
   ·rw [if_neg ‹_›] at h'; exact h _ _ h'
  | normal => exact h _ _ h'
  | goto l => exact h _ _ h'
  | ret => exact h _ _ h'
  | panic ch => exact h _ _ h'
  | outgrown => exact h _ _ h'
 | .loop b, σ, Q, Q', h, hh => by
  unfold zje at *
  obtain ⟨I, h0, hr⟩ := hh
  refine ⟨I, h0, fun n σ1 hI => zcm (fun e σ' h' => ?_) (hr n σ1 hI)⟩
  cases e with
  | normal => exact h'
  | exit i => exact h _ _ h'
  | goto l => exact h _ _ h'
  | ret => exact h _ _ h'
  | panic ch => exact h _ _ h'
  | outgrown => exact h _ _ h'
 | .region _ ops true, σ, Q, Q', h, hh => zb4.mono (h .normal) hh
 | .rangeFunc .., _, _, _, _, hh => hh.elim
 | .scope _, _, _, _, _, hh => hh.elim
 | .label _, _, _, _, _, hh => hh.elim
 | .goto _, _, _, _, _, hh => hh.elim
 | .refuse _, _, _, _, _, hh => hh.elim
theorem zaj {b : Code} {σ : St} {ks : List Fr} {Q : Exit -> St -> Prop} {X : Type} (I : X -> St) (Pr : X -> Prop) (μ : X -> Nat) (x0 : X) (h0 : Wk σ (I x0)) (p0 : Pr x0)
  (hr : ∀ x, Pr x -> ex P b [] (qai P I Pr μ x ks Q) (I x)) : ex P (.loop b) ks Q σ := by
 unfold ex zje
 refine ⟨fun n s => ∃ x, Pr x /\ μ x = n /\ s = I x, ⟨μ x0, I x0, h0, x0, p0, rfl, rfl⟩, ?_⟩
 rintro n s ⟨x, px, rfl, rfl⟩
 refine zcm ?_ (hr x px)
 intro e σ' h
 cases e with
 | normal => obtain ⟨x', h1, h2, h3⟩ := h; exact ⟨μ x', I x', h2, h3, x', h1, rfl, rfl⟩
 | exit i => exact h
 | goto l => exact h
 | ret => exact h
 | panic ch => exact h
 | outgrown => exact h
end Go.Proofs.YtaaniggpnljckaaGreat
namespace Go.Proofs.YtaaniggpnljckaaGreat
set_option linter.unusedSimpArgs false
set_option linter.unusedVariables false
set_option linter.unusedSectionVars false
set_option maxRecDepth 4000
open Go.RowKit
variable {P : Program}
def D.toV : D -> V
 | .one t => .one (.t t)
 | .agg ts => .agg (ts.map .t)
def gV (k : Nat) : Bool × D -> V
 | (false, d) => d.toV
 | (true, .one t) => .one (owC k 0 t)
 | (true, .agg ts) => .agg (zla k 0 ts)
def gE (k : Nat) : Bool × D -> (Nat -> Option Ev) -> (Nat -> Option Ev)
 | (false, _), f => f
 | (true, .one t), f => zox k 0 f t
 | (true, .agg ts), f => owE k 0 ts f
def zg8 : Nat -> List (Bool × D) -> Nat -> V
 | _, [] => fun _ => .one .any
 | k, d :: ds => upd (zg8 (k + 1) ds) k (gV k d)
def zd5 : Nat -> List (Bool × D) -> Nat -> Option Ev
 | _, [] => fun _ => none
 | k, d :: ds => gE k d (zd5 (k + 1) ds)
def zci (args : List (Bool × D)) : St := ⟨zg8 0 args, fun _ => none, zd5 0 args⟩
def zsh (P : Program) (σ : St) : ResultVar -> Option V
 | .tmp t => if t < 1000000 then some (σ.sl t) else none
 | .cell a t => if a < 1000000 then (σ.at (σ.sl a)).bind fun (cs, o) => ldC P t cs o else none
def own1 (σ : St) (used : List Nat) (K : List Nat -> Prop) : C -> T -> Prop
 | .t x, y => x = y /\ y.flat = true /\ K used
 | .nl _, .sl _ rows => rows = [] /\ K used
 | .ow e g, .sl sz rows => e ∉ used /\ σ.ev e = some ⟨true, sz, rows, g, true⟩ /\ K (e :: used)
 | _, _ => False
def ownK (σ : St) (K : List Nat -> Prop) : List Nat -> List C -> List T -> Prop
 | used, [], [] => K used
 | used, c :: cs, t :: ts => own1 σ used (fun u => ownK σ K u cs ts) c t
 | _, _, _ => False
def zvq (σ : St) : List Nat -> List V -> List D -> Prop
 | _, [], [] => True
 | used, .one c :: vs, .one t :: ds => own1 σ used (fun u => zvq σ u vs ds) c t
 | used, .agg cs :: vs, .agg ts :: ds => ownK σ (fun u => zvq σ u vs ds) used cs ts
 | _, _, _ => False
def CT1 (σ : St) : C -> T -> Prop
 | .t x, y => x = y
 | .rn x, y => x = y
 | .nl _, .sl _ rows => rows = []
 | .el cs o, .ptr cs' => o = 0 /\ cs = cs'
 | .er cs o, .ptr cs' => o = 0 /\ cs = cs'
 | _, _ => False
def zmj (σ : St) : List C -> List T -> Prop
 | [], ts => ts = []
 | c :: cs, ts => ∃ t ts', ts = t :: ts' /\ CT1 σ c t /\ zmj σ cs ts'
def RV (σ : St) : List V -> List D -> Prop
 | [], [] => True
 | .one c :: vs, .one t :: ds => CT1 σ c t /\ RV σ vs ds
 | .agg cs :: vs, .agg ts :: ds => zmj σ cs ts /\ RV σ vs ds
 | _, _ => False
def zbh (P : Program) (σ : St) : List ResultVar -> Option (List V)
 | [] => some []
 | r :: rs => (zsh P σ r).bind fun v => (zbh P σ rs).map (v :: ·)
def PF (P : Program) (rs : List ResultVar) (res : List D) (e : Exit) (σ : St) : Prop := match e with
 | .normal => zam (zbh P σ rs) fun vs => zvq σ [] vs res
 | .ret => zam (zbh P σ rs) fun vs => zvq σ [] vs res
 | _ => False
theorem zba.len {w : World} {A : Nat -> Prop} : ∀ {ds : List D} {vs : List Value}, zba w A ds vs -> vs.length = ds.length
 | [], vs, h => by rw [show vs = [] from h]; rfl
 | d :: ds, vs, h => by obtain ⟨v, vs', rfl, _, h2⟩ := h; simp [zba.len h2]
theorem zba.keep {w w' : World} {A A' : Nat -> Prop} (hs : ∀ b, A b -> w'.heap[b]? = w.heap[b]?) (ha : ∀ b, A b -> A' b) : ∀ {ds : List D} {vs : List Value}, zba w A ds vs -> zba w' A' ds vs
 | [], vs, h => h
 | .one t :: ds, vs, h => by obtain ⟨v, vs', rfl, h1, h2⟩ := h; exact ⟨v, vs', rfl, zai.keep hs ha t v h1, zba.keep hs ha h2⟩
 | .agg ts :: ds, vs, h => by obtain ⟨v, vs', rfl, ⟨a, h0, h1⟩, h2⟩ := h; exact ⟨v, vs', rfl, ⟨a, h0, zad.keep hs ha ts a h1⟩, zba.keep hs ha h2⟩
theorem qdx {σ : St} {g : Gh} {w : World} {d : D} {v : Value} (h : zto w (Fix σ g w) d v) : VR σ g w d.toV v := by
 cases d with
 | one t => exact h
 | agg ts =>
  obtain ⟨a, rfl, h⟩ := h
  refine ⟨a, rfl, ?_⟩
  induction ts generalizing a with
  | nil => unfold zad at h; exact h
  | cons t ts ih =>
   unfold zad at h
   obtain ⟨v, vs', rfl, h1, h2⟩ := h
   exact ⟨v, vs', rfl, h1, ih vs' h2⟩
structure Ini (w : World) (σ : St) (g : Gh) (F : List Nat) (tp : List Nat) (k : Nat) : Prop where
 ev : ∀ e x, σ.ev e = some x -> x.deep = true /\ x.on = true /\ x.gen = 0 /\ zao w (.sl x.sz x.rows) (g.ψ e 0) (g.φ e) /\ (∀ b ∈ g.φ e, b ∈ F) /\ (g.φ e).Nodup /\ (∀ b, (g.φ e).head? = some b -> b ∈ tp) /\ k * 32 <= e
 apart : ∀ e e', σ.ev e ≠ none -> σ.ev e' ≠ none -> e ≠ e' -> ∀ b ∈ g.φ e, b ∉ g.φ e'
 slc : ∀ e n, ∃ ao l c, g.ψ e n = .slice ao l c
theorem Ini.nil (w : World) (sl : Nat -> V) (bx : Nat -> Option (List C)) (g : Gh) (k : Nat) (hs : ∀ e n, ∃ ao l c, g.ψ e n = .slice ao l c) : Ini w ⟨sl, bx, fun _ => none⟩ g [] [] k := ⟨fun e x h => (nomatch h), fun e e' h => absurd rfl h, hs⟩
theorem Ini.low {w : World} {σ : St} {g : Gh} {F tp : List Nat} {k k' : Nat} (h : Ini w σ g F tp k) (hk : k' <= k) : Ini w σ g F tp k' := ⟨fun e x he => by obtain ⟨a, a1, a2, b, c, d, e', f⟩ := h.ev e x he; exact ⟨a, a1, a2, b, c, d, e', by omega⟩, h.apart, h.slc⟩
theorem Ini.add {w : World} {σ : St} {g : Gh} {F tp : List Nat} {k i sz : Nat} {rows : List (List T)} {v : Value} {fp : List Nat} (h : Ini w σ g F tp k) (hi : σ.ev i = none) (hk : k * 32 <= i) (ho : zao w (.sl sz rows) v fp) (hd : fp.Nodup) (hF : ∀ b ∈ fp, b ∉ F) (sl : Nat -> V) :
  Ini w ⟨sl, σ.bx, upd σ.ev i (some ⟨true, sz, rows, 0, true⟩)⟩ { g with ψ := upd g.ψ i (fun _ => v), φ := upd g.φ i fp } (fp ++ F) (zg7 (.sl sz rows) fp ++ tp) k := by
 refine ⟨fun e x he => ?_, fun e e' h1 h2 hne b hb hb' => ?_, fun e n => by
  by_cases hei : e = i
  ·subst hei; unfold zao at ho; obtain ⟨ao, cap, k1, _⟩ := ho; exact ⟨ao, _, cap, by simp only [zac]; exact k1⟩
  ·simp only [zah _ _ hei]; exact h.slc e n⟩
 ·by_cases hei : e = i
  ·subst hei
   simp only [zac, Option.some.injEq] at he ⊢
   subst he
   exact ⟨rfl, rfl, rfl, ho, fun b hb => by simp [hb], hd, fun b hb => by simp [zg7, hb], hk⟩
  ·simp only [zah _ _ hei] at he ⊢
   obtain ⟨a, a1, a2, b, c, d, e', f⟩ := h.ev e x he
   exact ⟨a, a1, a2, b, fun q hq => by simp [c q hq], d, fun q hq => by simp [e' q hq], f⟩
 ·by_cases e1 : e = i <;> by_cases e2 : e' = i
  ·exact hne (e1.trans e2.symm)
  ·subst e1
   simp only [zac, zah _ _ e2] at hb hb' h2
   obtain ⟨x, hx⟩ := Option.ne_none_iff_exists'.1 h2
   exact hF b hb ((h.ev e' x hx).2.2.2.2.1 b hb')
  ·subst e2
   simp only [zac, zah _ _ e1] at hb hb' h1
   obtain ⟨x, hx⟩ := Option.ne_none_iff_exists'.1 h1
   exact hF b hb' ((h.ev e x hx).2.2.2.2.1 b hb)
  ·simp only [zah _ _ e1, zah _ _ e2] at hb hb' h1 h2
   exact h.apart e e' h1 h2 hne b hb hb'
theorem Ini.mono {w : World} {σ : St} {g : Gh} {F F' tp tp' : List Nat} {k : Nat} (h : Ini w σ g F tp k) (h1 : ∀ b ∈ F, b ∈ F') (h2 : ∀ b ∈ tp, b ∈ tp') : Ini w σ g F' tp' k :=
 ⟨fun e x he => by obtain ⟨a, a1, a2, b, c, d, e', f⟩ := h.ev e x he; exact ⟨a, a1, a2, b, fun q hq => h1 q (c q hq), d, fun q hq => h2 q (e' q hq), f⟩, h.apart, h.slc⟩
def gC (ev : Nat -> Option Ev) (ψ : Nat -> Nat -> Value) (w : World) : C -> Value -> Prop
 | .ow e n, v => v = ψ e n /\ ev e ≠ none /\ n = 0
 | .t x, v => ∃ fp, zao w x v fp /\ x.flat = true
 | _, _ => False
def gCs (ev : Nat -> Option Ev) (ψ : Nat -> Nat -> Value) (w : World) : List C -> List Value -> Prop
 | [], vs => vs = []
 | c :: cs, vs => ∃ v vs', vs = v :: vs' /\ gC ev ψ w c v /\ gCs ev ψ w cs vs'
theorem gC.more {ev ev' : Nat -> Option Ev} {ψ ψ' : Nat -> Nat -> Value} {w : World} (h : ∀ e, ev e ≠ none -> ψ' e = ψ e /\ ev' e ≠ none) {c : C} {v : Value} (hc : gC ev ψ w c v) : gC ev' ψ' w c v := by
 cases c <;> first | exact hc | exact ⟨hc.1.trans (by rw [(h _ hc.2.1).1]), (h _ hc.2.1).2, hc.2.2⟩
theorem gCs.more {ev ev' : Nat -> Option Ev} {ψ ψ' : Nat -> Nat -> Value} {w : World} (h : ∀ e, ev e ≠ none -> ψ' e = ψ e /\ ev' e ≠ none) : ∀ {cs : List C} {vs : List Value}, gCs ev ψ w cs vs -> gCs ev' ψ' w cs vs
 | [], _, hc => hc
 | c :: cs, vs, hc => by obtain ⟨v, vs', rfl, h1, h2⟩ := hc; exact ⟨v, vs', rfl, h1.more h, gCs.more h h2⟩
theorem Ini.cells {w : World} (d : Nat) {sl : Nat -> V} {bx : Nat -> Option (List C)} : ∀ (ts : List T) (vs : List Value) (fp tp : List Nat) (j : Nat) (ev : Nat -> Option Ev) (g : Gh) (F tpF : List Nat), Ini w ⟨sl, bx, ev⟩ g F tpF d -> (∀ i, j <= i -> i < 32 -> ev (d * 32 + i) = none) -> j + ts.length <= 32 -> (∀ t ∈ ts, t.isPin = false) →
  ztm w ts vs fp tp -> fp.Nodup -> (∀ b ∈ fp, b ∉ F) →
  ∃ g', Ini w ⟨sl, bx, owE d j ts ev⟩ g' (fp ++ F) (tp ++ tpF) d /\ g'.A0 = g.A0 /\ g'.R0 = g.R0 /\ (∀ e, ev e ≠ none -> g'.ψ e = g.ψ e /\ owE d j ts ev e ≠ none) /\ gCs (owE d j ts ev) g'.ψ w (zla d j ts) vs /\ ∀ e, e < d * 32 + j -> owE d j ts ev e = ev e
 | [], vs, fp, tp, j, ev, g, F, tpF, hI, hf, hl, hp, hg, hn, hb => by
  obtain ⟨rfl, rfl, rfl⟩ := hg
  exact ⟨g, hI, rfl, rfl, fun e he => ⟨rfl, he⟩, rfl, fun e _ => rfl⟩
 | t :: ts, vs, fp, tp, j, ev, g, F, tpF, hI, hf, hl, hp, hg, hn, hb => by
  obtain ⟨v, vs', f1, f2, t2, rfl, rfl, rfl, h1, h2⟩ := hg
  obtain ⟨n1, n2, n3⟩ := List.nodup_append.1 hn
  simp only [List.length_cons] at hl
  by_cases hfl : t.flat = true
  ·have he1 : zox d j ev t = ev /\ owC d j t = .t t /\ f1 = [] /\ zg7 t f1 = [] := by
    cases t <;> simp only [T.flat, Bool.false_eq_true] at hfl <;> unfold zao at h1
    ·exact ⟨rfl, rfl, h1.2.2.2, rfl⟩
    ·exact ⟨rfl, rfl, h1.2, rfl⟩
    ·exact ⟨rfl, rfl, h1.2.2, rfl⟩
    ·exact ⟨rfl, rfl, h1.2, rfl⟩
   obtain ⟨q1, q2, rfl, q4⟩ := he1
   obtain ⟨g', k1, k2, k3, k4, k5, k6⟩ := Ini.cells d ts vs' f2 t2 (j + 1) ev g F tpF hI (fun i hi => hf i (by omega)) (by omega) (fun t ht => hp t (List.mem_cons_of_mem _ ht)) h2 n2 (fun b hb' => hb b (by simp [hb']))
   refine ⟨g', ?_, k2, k3, ?_, ?_, fun e he => ?_⟩
   ·rw [q4]; simp only [owE, q1, List.nil_append]; exact k1
   ·simp only [owE, q1]; exact k4
   ·simp only [owE, q1, zla, q2]; exact ⟨v, vs', rfl, ⟨[], h1, hfl⟩, k5⟩
   ·simp only [owE, q1]; exact k6 e (by omega)
  ·cases t <;> simp only [T.flat, Bool.false_eq_true, not_false_eq_true, not_true] at hfl
   ·rename_i sz rows
    have hi : ev (d * 32 + j) = none := hf j (Nat.le_refl _) (by omega)
    have hadd := hI.add (i := d * 32 + j) (sz := sz) (rows := rows) (v := v) (fp := f1) hi (by omega) h1 n1 (fun b hb' => hb b (by simp [hb'])) sl
    obtain ⟨g', k1, k2, k3, k4, k5, k6⟩ := Ini.cells d ts vs' f2 t2 (j + 1) _ _ _ _ hadd (fun i hi h32 => by rw [zah _ _ (by omega)]; exact hf i (by omega) h32) (by omega) (fun t ht => hp t (List.mem_cons_of_mem _ ht)) h2 n2 (fun b hb' => by
     simp only [List.mem_append, not_or]
     exact ⟨fun h => n3 b h b hb' rfl, hb b (by simp [hb'])⟩)
    have hnew := k4 (d * 32 + j) (by rw [zac]; simp)
    simp only [zac] at hnew
    refine ⟨g', ?_, k2, k3, fun e he => ?_, ⟨v, vs', rfl, ⟨by rw [hnew.1], hnew.2, rfl⟩, k5⟩, fun e he => ?_⟩
    ·exact k1.mono (fun b hb' => by simp only [List.mem_append] at hb' ⊢; rcases hb' with h | h | h <;> simp [h]) (fun b hb' => by simp only [List.mem_append] at hb' ⊢; rcases hb' with h | h | h <;> simp [h])
    ·have hne : e ≠ d * 32 + j := fun h => he (h ▸ hi)
     have := k4 e (by rw [zah _ _ hne]; exact he)
     simp only [zah _ _ hne] at this
     exact this
    ·have := k6 e (by omega)
     simp only [owE, zox]
     rw [this, zah _ _ (by omega)]
   ·unfold zao at h1; exact h1.elim
   ·unfold zao at h1; exact h1.elim
   ·unfold zao at h1; exact h1.elim
   ·have := hp _ (List.mem_cons_self ..); cases this
   ·unfold zao at h1; exact h1.elim
   ·unfold zao at h1; exact h1.elim
   ·unfold zao at h1; exact h1.elim
def gD (ev : Nat -> Option Ev) (ψ : Nat -> Nat -> Value) (w : World) (A : Nat -> Prop) (k : Nat) : Bool × D -> Value -> Prop
 | (false, d), v => zto w A d v
 | (true, .one t), v => gC ev ψ w (owC k 0 t) v
 | (true, .agg ts), v => ∃ a, v = .agg ⟨a⟩ /\ gCs ev ψ w (zla k 0 ts) a
theorem gD.more {ev ev' : Nat -> Option Ev} {ψ ψ' : Nat -> Nat -> Value} {w : World} {A : Nat -> Prop} {k : Nat} (h : ∀ e, ev e ≠ none -> ψ' e = ψ e /\ ev' e ≠ none) {d : Bool × D} {v : Value} (hc : gD ev ψ w A k d v) : gD ev' ψ' w A k d v := by
 obtain ⟨b, d⟩ := d
 cases b
 ·exact hc
 ·cases d with
  | one t => exact gC.more h hc
  | agg ts => obtain ⟨a, h1, h2⟩ := hc; exact ⟨a, h1, h2.more h⟩
def zar : List (Bool × D) -> Prop
 | [] => True
 | (true, .agg ts) :: ds => (ts.length <= 32 /\ ∀ t ∈ ts, t.isPin = false) /\ zar ds
 | (true, .one t) :: ds => t.isPin = false /\ zar ds
 | _ :: ds => zar ds
theorem Ini.args {w : World} {A : Nat -> Prop} {sl : Nat -> V} {bx : Nat -> Option (List C)} (g : Gh) (hs0 : ∀ e n, ∃ ao l c, g.ψ e n = .slice ao l c) : ∀ (ds : List (Bool × D)) (vs : List Value) (fp tp : List Nat) (k : Nat), zas w A ds vs fp tp -> fp.Nodup -> zar ds →
  ∃ g', Ini w ⟨sl, bx, zd5 k ds⟩ g' fp tp k /\ g'.A0 = g.A0 /\ g'.R0 = g.R0 /\ vs.length = ds.length /\ ∀ (i : Nat) d v, ds[i]? = some d -> vs[i]? = some v -> gD (zd5 k ds) g'.ψ w A (k + i) d v
 | [], vs, fp, tp, k, hg, hn, hs => by
  obtain ⟨rfl, rfl, rfl⟩ := hg
  exact ⟨g, Ini.nil _ _ _ _ _ hs0, rfl, rfl, rfl, fun i d v h => by simp at h⟩
 | (false, d) :: ds, vs, fp, tp, k, hg, hn, hs => by
  obtain ⟨v, vs', rfl, h1, h2⟩ := hg
  obtain ⟨g', k1, k2, k3, k4, k5⟩ := Ini.args g hs0 ds vs' fp tp (k + 1) h2 hn (by cases d <;> exact hs)
  refine ⟨g', k1.low (by omega), k2, k3, by simp [k4], fun i d' v' hi hv => ?_⟩
  cases i with
  | zero =>
   simp only [List.getElem?_cons_zero, Option.some.injEq] at hi hv
   subst hi hv
   exact h1
  | succ i =>
   have := k5 i d' v' (by simpa using hi) (by simpa using hv)
   rw [show k + (i + 1) = k + 1 + i by omega]
   exact this
 | (true, .one t) :: ds, vs, fp, tp, k, hg, hn, hs => by
  obtain ⟨v, vs', f1, f2, t1, t2, rfl, rfl, rfl, ⟨h1, rfl⟩, h2⟩ := hg
  obtain ⟨n1, n2, n3⟩ := List.nodup_append.1 hn
  obtain ⟨g', k1, k2, k3, k4, k5⟩ := Ini.args g hs0 ds vs' f2 t2 (k + 1) h2 n2 hs.2
  obtain ⟨g'', j1, j2, j3, j4, j5, j6⟩ := Ini.cells (sl := sl) (bx := bx) k [t] [v] f1 (zg7 t f1) 0 (zd5 (k + 1) ds) g' f2 t2 (k1.low (by omega)) (fun i _ hi => by
   cases hx : zd5 (k + 1) ds (k * 32 + i) with
   | none => rfl
   | some x => have := (k1.ev _ x hx).2.2.2.2.2.2.2; omega) (by simp) (by simpa using hs.1) ⟨v, [], f1, [], [], rfl, by simp, by simp, h1, rfl, rfl, rfl⟩ n1 (fun b hb hb' => n3 b hb b hb' rfl)
  refine ⟨g'', j1, j2.trans k2, j3.trans k3, by simp [k4], fun i d' v' hi hv => ?_⟩
  cases i with
  | zero =>
   simp only [List.getElem?_cons_zero, Option.some.injEq] at hi hv
   subst hi hv
   obtain ⟨u, us, e, q, _⟩ := j5
   cases e
   exact q
  | succ i =>
   have := k5 i d' v' (by simpa using hi) (by simpa using hv)
   rw [show k + (i + 1) = k + 1 + i by omega]
   exact this.more j4
 | (true, .agg ts) :: ds, vs, fp, tp, k, hg, hn, hs => by
  obtain ⟨v, vs', f1, f2, t1, t2, rfl, rfl, rfl, ⟨a, rfl, h1⟩, h2⟩ := hg
  obtain ⟨n1, n2, n3⟩ := List.nodup_append.1 hn
  obtain ⟨g', k1, k2, k3, k4, k5⟩ := Ini.args g hs0 ds vs' f2 t2 (k + 1) h2 n2 hs.2
  obtain ⟨g'', j1, j2, j3, j4, j5, j6⟩ := Ini.cells (sl := sl) (bx := bx) k ts a f1 t1 0 (zd5 (k + 1) ds) g' f2 t2 (k1.low (by omega)) (fun i _ hi => by
   cases hx : zd5 (k + 1) ds (k * 32 + i) with
   | none => rfl
   | some x => have := (k1.ev _ x hx).2.2.2.2.2.2.2; omega) (by simpa using hs.1.1) hs.1.2 h1 n1 (fun b hb hb' => n3 b hb b hb' rfl)
  refine ⟨g'', j1, j2.trans k2, j3.trans k3, by simp [k4], fun i d' v' hi hv => ?_⟩
  cases i with
  | zero =>
   simp only [List.getElem?_cons_zero, Option.some.injEq] at hi hv
   subst hi hv
   exact ⟨a, rfl, j5⟩
  | succ i =>
   have := k5 i d' v' (by simpa using hi) (by simpa using hv)
   rw [show k + (i + 1) = k + 1 + i by omega]
   exact this.more j4
theorem zfv : ∀ (ds : List (Bool × D)) (k i : Nat), zg8 k ds (k + i) = match ds[i]? with | some d => gV (k + i) d | none => .one .any
 | [], k, i => by simp [zg8]
 | d :: ds, k, 0 => by simp [zg8, upd]
 | d :: ds, k, i + 1 => by
  unfold zg8
  rw [zah _ _ (by omega), show k + (i + 1) = k + 1 + i by omega, zfv ds (k + 1) i]
  simp
theorem gC.cr {σ : St} {g : Gh} {w : World} {c : C} {v : Value} (h : gC σ.ev g.ψ w c v) : CR σ g w c v := by
 cases c with
 | ow e n => obtain ⟨h1, h2, rfl⟩ := h; obtain ⟨x, hx⟩ := Option.ne_none_iff_exists'.1 h2; exact ⟨h1, x, hx, Nat.zero_le _⟩
 | t x =>
  obtain ⟨fp, h1, h2⟩ := h
  cases x <;> simp only [T.flat, Bool.false_eq_true] at h2 <;> unfold zao at h1 <;> simp only [CR, zai]
  ·exact ⟨h1.1, h1.2.1, h1.2.2.1⟩
  ·exact h1.1
  ·exact ⟨h1.1, h1.2.1⟩
  ·exact h1.1
 | _ => exact h.elim
theorem gCs.crs {σ : St} {g : Gh} {w : World} : ∀ {cs : List C} {vs : List Value}, gCs σ.ev g.ψ w cs vs -> CRs σ g w cs vs
 | [], _, h => h
 | c :: cs, vs, h => by obtain ⟨v, vs', rfl, h1, h2⟩ := h; exact ⟨v, vs', rfl, h1.cr, gCs.crs h2⟩
theorem Rel.start {w : World} {args : List (Bool × D)} {vs : List Value} {N : Nat} {A A0 : Nat -> Prop} {R0 : RP} {fp tp : List Nat} (h : zas w (fun b => b < w.heap.size /\ A b /\ b ∉ fp) args vs fp tp) (hn : fp.Nodup) (hs : zar args) (hN : args.length <= N)
  (hA : ∀ b, A b -> A0 b) (hF : ∀ b ∈ fp, A0 b /\ R0 b) (hnew : ∀ b, ¬ (b < w.heap.size /\ b ∉ fp) -> A0 b /\ R0 b) :
  ∃ g, (g.A0, g.R0) = (A0, R0) /\ Rel (fun b => b < w.heap.size /\ b ∉ fp) N (zci args) g { tmps := (⟨vs⟩ : Array Value) ++ Array.replicate (N - vs.length) undef, defers := [] } w := by
 obtain ⟨g, k1, k2, k3, k4, k5⟩ := Ini.args (sl := zg8 0 args) (bx := fun _ => none) ⟨fun _ => 0, fun _ _ => .slice none 0 0, fun _ => [], A0, R0⟩ (fun _ _ => ⟨_, _, _, rfl⟩) args vs fp tp 0 h hn hs
 refine ⟨g, by rw [k2, k3], ?_⟩
 have hfix : ∀ b, (b < w.heap.size /\ A b /\ b ∉ fp) -> Fix (zci args) g w b := fun b hb => by
  refine ⟨fun k hk => absurd rfl hk, fun e x hx ho hh => ?_, hb.1, by rw [k2]; exact hA b hb.2.1⟩
  exact hb.2.2 ((k1.ev e x hx).2.2.2.2.1 b (List.mem_of_mem_head? hh))
 refine ⟨rfl, by simp; omega, fun b hb => by rw [k2, k3]; exact hnew b hb, fun i => ?_, fun b cs hb => (nomatch hb), fun b hb => absurd rfl hb, fun b b' hb => absurd rfl hb, fun e x he ho => ?_, fun e x he ho => ?_, k1.slc, fun e he b hb => ?_, fun e he b hb => ?_, fun e he => ?_, fun e e' h1 h2 hne => k1.apart e e' (by obtain ⟨x, hx, _⟩ := h1; exact fun hh => by cases hx.symm.trans hh) (by obtain ⟨x, hx, _⟩ := h2; exact fun hh => by cases hx.symm.trans hh) hne, fun e k _ hk => absurd rfl hk⟩
 ·show VR _ _ _ (zg8 0 args i) _
  have hi0 := zfv args 0 i
  simp only [Nat.zero_add] at hi0
  rw [hi0]
  cases hd : args[i]? with
  | none => trivial
  | some d =>
   have hlt : i < vs.length := by rw [k4]; exact (List.getElem?_eq_some_iff.1 hd).1
   have hv := k5 i d vs[i] hd (by simp [hlt])
   simp only [Nat.zero_add] at hv
   have hg : ((⟨vs⟩ : Array Value) ++ Array.replicate (N - vs.length) undef).getD i (g.R0.ξ i) = vs[i] := by
    rw [Array.getD_eq_getD_getElem?, Array.getElem?_append_left (by simpa using hlt)]
    simp [hlt]
   simp only
   rw [hg]
   obtain ⟨b, d⟩ := d
   cases b
   ·exact qdx (by cases d with
     | one t => exact zai.keep (fun _ _ => rfl) hfix t _ hv
     | agg ts => obtain ⟨a, h1, h2⟩ := hv; exact ⟨a, h1, zad.keep (fun _ _ => rfl) hfix ts a h2⟩)
   ·cases d with
    | one t => exact gC.cr hv
    | agg ts => obtain ⟨a, h1, h2⟩ := hv; exact ⟨a, h1, h2.crs⟩
 ·obtain ⟨h1, _, h0, h2, _⟩ := k1.ev e x he
  rw [h0]
  unfold zao at h2
  obtain ⟨ao, cap, j1, j2, j3, j4⟩ := h2
  refine ⟨ao, cap, j1, j2, j3, ?_⟩
  rcases j4 with j4 | ⟨b, cells, ty, fps, j4, j5, j6, j7, j8⟩
  ·exact Or.inl j4
  ·exact Or.inr ⟨b, cells, ty, fps, j4, j5, j6, j7, by rw [if_pos h1]; exact j8⟩
 ·rw [(k1.ev e x he).2.1] at ho; cases ho
 ·obtain ⟨x, hx, _⟩ := he
  rw [k2, k3]
  exact hF b ((k1.ev e x hx).2.2.2.2.1 b hb)
 ·obtain ⟨x, hx, _⟩ := he
  exact fun hk => hk.2 ((k1.ev e x hx).2.2.2.2.1 b hb)
 ·obtain ⟨x, hx, _⟩ := he
  exact (k1.ev e x hx).2.2.2.2.2.1
def zpp (a : Act) : ResultVar -> Sem Value
 | .tmp t => pure (a.tmps.getD t undef)
 | .cell b t => do loadVar t (<- asAddr (a.tmps.getD b undef))
theorem zv8 {n0 : Nat -> Prop} {N : Nat} {σ : St} {g : Gh} {a : Act} {w : World} (hR : Rel n0 N σ g a w) {r : ResultVar} {v : V} (h : zsh P σ r = some v) :
  ∃ u, (zpp a r).run P w = .ok u w /\ VR σ g w v u := by
 cases r with
 | tmp t =>
  unfold zsh at h
  simp only at h
  split at h
  ·cases h; exact ⟨_, rfl, hR.slot_at ‹_›⟩
  ·cases h
 | cell b t =>
  unfold zsh at h
  simp only at h
  split at h
  ·rename_i hb
   obtain ⟨⟨cs, o⟩, h1, h2⟩ := Option.bind_eq_some_iff.1 h
   obtain ⟨k, q, e1, e2⟩ := hR.at (hR.slot_at hb) h1
   obtain ⟨u, u1, u2⟩ := zqx h2 e2
   refine ⟨u, ?_, u2⟩
   simp only [zpp, e1, asAddr, Sem.run_bind, Sem.run_pure, Result.andThen, u1]
  ·cases h
def VRl (σ : St) (g : Gh) (w : World) : List V -> List Value -> Prop
 | [], us => us = []
 | v :: vs, us => ∃ u us', us = u :: us' /\ VR σ g w v u /\ VRl σ g w vs us'
theorem zil {n0 : Nat -> Prop} {N : Nat} {σ : St} {g : Gh} {a : Act} {w : World} (hR : Rel n0 N σ g a w) : ∀ (rs : List ResultVar) (vs : List V), zbh P σ rs = some vs →
  ∃ us, (rs.mapM (zpp a)).run P w = .ok us w /\ VRl σ g w vs us
 | [], vs, h => by cases h; exact ⟨[], by simp, rfl⟩
 | r :: rs, vs, h => by
  obtain ⟨v, h1, h2⟩ := Option.bind_eq_some_iff.1 h
  obtain ⟨vs', h3, rfl⟩ := Option.map_eq_some_iff.1 h2
  obtain ⟨u, u1, u2⟩ := zv8 hR h1
  obtain ⟨us, k1, k2⟩ := zil hR rs vs' h3
  refine ⟨u :: us, ?_, u, us, rfl, u2, k2⟩
  simp only [List.mapM_cons, Sem.run_bind, u1, k1, Result.andThen, Sem.run_pure]
theorem zbs {n0 : Nat -> Prop} {N : Nat} {σ : St} {g : Gh} {a : Act} {w : World} (hR : Rel n0 N σ g a w) (fn : Func) {vs : List V} (h : zbh P σ fn.results.toList = some vs) :
  ∃ us, (results fn a.tmps).run P w = .ok (zbk us) w /\ VRl σ g w vs us := by
 obtain ⟨us, h1, h2⟩ := zil hR _ _ h
 refine ⟨us, ?_, h2⟩
 have he : results fn a.tmps = (do let vs <- fn.results.mapM (zpp a); pure (if h : vs.size = 1 then vs[0] else .tuple vs)) := by
  unfold results
  congr 2
 rw [he, Array.mapM_eq_mapM_toList]
 simp only [Sem.run_bind, Sem.run_map, h1, Result.andThen]
 rcases us with _ | ⟨u, _ | ⟨u', us⟩⟩
 ·rfl
 ·rfl
 ·simp [zbk]
theorem zdl {n0 : Nat -> Prop} {N : Nat} {σ : St} {g : Gh} {a : Act} {w : World} (hR : Rel n0 N σ g a w) {e sz n : Nat} {rows : List (List T)} (he : σ.ev e = some ⟨true, sz, rows, n, true⟩) : zao w (.sl sz rows) (g.ψ e n) (g.φ e) := by
 obtain ⟨ao, cap, e1, e2, e3, e4⟩ := hR.evs e _ he rfl
 unfold zao
 refine ⟨ao, cap, e1, e2, e3, ?_⟩
 rcases e4 with e4 | ⟨b, cells, ty, fps, k1, k2, k3, k4, k5⟩
 ·exact Or.inl e4
 ·exact Or.inr ⟨b, cells, ty, fps, k1, k2, k3, k4, by simpa using k5⟩
def Blk (σ : St) (g : Gh) (used used' : List Nat) (fp tp : List Nat) : Prop := fp.Nodup /\ (∀ b ∈ fp, ∃ e ∈ used', e ∉ used /\ σ.On e /\ b ∈ g.φ e) /\ (∀ e ∈ used, e ∈ used') /\ ∀ b ∈ tp, ∃ e, σ.On e /\ (g.φ e).head? = some b
theorem Blk.nil {σ : St} {g : Gh} (used : List Nat) : Blk σ g used used [] [] := ⟨List.nodup_nil, by simp, fun _ h => h, by simp⟩
theorem Blk.append {n0 : Nat -> Prop} {N : Nat} {σ : St} {g : Gh} {a : Act} {w : World} (hR : Rel n0 N σ g a w) {u1 u2 u3 : List Nat} {f1 f2 t1 t2 : List Nat} (h : Blk σ g u1 u2 f1 t1) (k : Blk σ g u2 u3 f2 t2) : Blk σ g u1 u3 (f1 ++ f2) (t1 ++ t2) := by
 refine ⟨List.nodup_append.2 ⟨h.1, k.1, fun b hb c hc e => ?_⟩, fun b hb => ?_, fun e he => k.2.2.1 e (h.2.2.1 e he), fun b hb => ?_⟩
 ·subst e
  obtain ⟨e1, m1, _, l1, b1⟩ := h.2.1 b hb
  obtain ⟨e2, m2, n2, l2, b2⟩ := k.2.1 b hc
  exact hR.apart e1 e2 l1 l2 (fun e => n2 (e ▸ m1)) b b1 b2
 ·rcases List.mem_append.1 hb with hb | hb
  ·obtain ⟨e, m, n, l, x⟩ := h.2.1 b hb
   exact ⟨e, k.2.2.1 e m, n, l, x⟩
  ·obtain ⟨e, m, n, l, x⟩ := k.2.1 b hb
   exact ⟨e, m, fun hu => n (h.2.2.1 e hu), l, x⟩
 ·rcases List.mem_append.1 hb with hb | hb
  ·exact h.2.2.2 b hb
  ·exact k.2.2.2 b hb
theorem zjg {n0 : Nat -> Prop} {N : Nat} {σ : St} {g : Gh} {a : Act} {w : World} (hR : Rel n0 N σ g a w) {used : List Nat} {K : List Nat -> Prop} {c : C} {t : T} (h : own1 σ used K c t) {v : Value} (hv : CR σ g w c v) :
  ∃ used' fp, K used' /\ zao w t v fp /\ Blk σ g used used' fp (zg7 t fp) := by
 unfold own1 at h
 split at h
 ·obtain ⟨rfl, h2, h3⟩ := h
  rename_i x
  simp only [CR] at hv
  cases x <;> simp only [T.flat, Bool.false_eq_true] at h2
  ·refine ⟨used, [], h3, ?_, Blk.nil _⟩
   unfold zai at hv; unfold zao; exact ⟨hv.1, hv.2.1, hv.2.2, rfl⟩
  ·refine ⟨used, [], h3, ?_, Blk.nil _⟩
   unfold zai at hv; unfold zao; exact ⟨hv, rfl⟩
  ·refine ⟨used, [], h3, ?_, Blk.nil _⟩
   unfold zai at hv; unfold zao; exact ⟨hv.1, hv.2, rfl⟩
  ·refine ⟨used, [], h3, ?_, Blk.nil _⟩
   unfold zai at hv; unfold zao; exact ⟨hv, rfl⟩
 ·obtain ⟨rfl, h3⟩ := h
  refine ⟨used, [], h3, ?_, Blk.nil _⟩
  unfold zao
  exact ⟨none, 0, hv, by simp, by simp, Or.inl ⟨rfl, rfl, rfl, rfl⟩⟩
 ·rename_i e n sz rows
  obtain ⟨h1, h2, h3⟩ := h
  have hl : σ.On e := ⟨_, h2, rfl⟩
  refine ⟨e :: used, g.φ e, h3, by rw [hv.1]; exact zdl hR h2, hR.nodup e hl, fun b hb => ⟨e, by simp, h1, hl, hb⟩, fun x hx => by simp [hx], fun b hb => ⟨e, hl, by simpa [zg7] using hb⟩⟩
 ·exact h.elim
theorem zjl {n0 : Nat -> Prop} {N : Nat} {σ : St} {g : Gh} {a : Act} {w : World} (hR : Rel n0 N σ g a w) {K : List Nat -> Prop} : ∀ {cs : List C} {ts : List T} {used : List Nat}, ownK σ K used cs ts -> ∀ {vs : List Value}, CRs σ g w cs vs →
  ∃ used' fp tp, K used' /\ ztm w ts vs fp tp /\ Blk σ g used used' fp tp
 | [], [], used, h, vs, hv => by rw [show vs = [] from hv]; exact ⟨used, [], [], h, ⟨rfl, rfl, rfl⟩, Blk.nil _⟩
 | c :: cs, t :: ts, used, h, vs, hv => by
  obtain ⟨v, vs', rfl, h1, h2⟩ := hv
  obtain ⟨u1, f1, k1, k2, k3⟩ := zjg hR h h1
  obtain ⟨u2, f2, t2, j1, j2, j3⟩ := zjl hR k1 h2
  exact ⟨u2, f1 ++ f2, zg7 t f1 ++ t2, j1, ⟨v, vs', f1, f2, t2, rfl, rfl, rfl, k2, j2⟩, k3.append hR j3⟩
 | [], _ :: _, _, h, _, _ => h.elim
 | _ :: _, [], _, h, _, _ => h.elim
theorem zdm {n0 : Nat -> Prop} {N : Nat} {σ : St} {g : Gh} {a : Act} {w : World} (hR : Rel n0 N σ g a w) : ∀ {vs : List V} {ds : List D} {used : List Nat}, zvq σ used vs ds -> ∀ {us : List Value}, VRl σ g w vs us →
  ∃ used' fp tp, GDs w ds us fp tp /\ Blk σ g used used' fp tp
 | [], [], used, h, us, hv => by rw [show us = [] from hv]; exact ⟨used, [], [], ⟨rfl, rfl, rfl⟩, Blk.nil _⟩
 | .one c :: vs, .one t :: ds, used, h, us, hv => by
  obtain ⟨u, us', rfl, h1, h2⟩ := hv
  obtain ⟨u1, f1, k1, k2, k3⟩ := zjg hR h h1
  obtain ⟨u2, f2, t2, j1, j2⟩ := zdm hR k1 h2
  exact ⟨u2, f1 ++ f2, zg7 t f1 ++ t2, ⟨u, us', f1, f2, zg7 t f1, t2, rfl, rfl, rfl, ⟨k2, rfl⟩, j1⟩, k3.append hR j2⟩
 | .agg cs :: vs, .agg ts :: ds, used, h, us, hv => by
  obtain ⟨u, us', rfl, ⟨x, rfl, h1⟩, h2⟩ := hv
  obtain ⟨u1, f1, t1, k1, k2, k3⟩ := zjl hR h h1
  obtain ⟨u2, f2, t2, j1, j2⟩ := zdm hR k1 h2
  exact ⟨u2, f1 ++ f2, t1 ++ t2, ⟨_, us', f1, f2, t1, t2, rfl, rfl, rfl, ⟨x, rfl, k2⟩, j1⟩, k3.append hR j2⟩
theorem zlt.rep {n0 : Nat -> Prop} {N : Nat} {σ : St} {g : Gh} {a : Act} {w : World} (hR : Rel n0 N σ g a w) : ∀ {cs : List C} {ts : List T}, zlt σ cs ts -> ∀ {vs : List Value}, CRs σ g w cs vs -> zad w (· < w.heap.size) ts vs
 | [], ts, h, vs, hv => by rw [show ts = [] from h]; unfold zad; exact hv
 | c :: cs, ts, h, vs, hv => by
  obtain ⟨t, ts', rfl, h1, h2⟩ := h
  obtain ⟨v, vs', rfl, k1, k2⟩ := hv
  unfold zad
  exact ⟨v, vs', rfl, CT0.rep hR h1 k1, zlt.rep hR h2 k2⟩
theorem CTb.rep {n0 : Nat -> Prop} {N : Nat} {σ : St} {g : Gh} {a : Act} {w : World} (hR : Rel n0 N σ g a w) {b : Nat} {t : T} (h : CTb σ b t) : zai w (· < w.heap.size) t (.pointer (some ⟨g.β b, 0, none⟩)) := by
 obtain ⟨cs, ts, h1, rfl, h2⟩ := h
 obtain ⟨vs, ty, k1, k2⟩ := hR.boxes b cs h1
 have hA := zlt.rep hR h2 k2
 unfold zai
 refine ⟨g.β b, 0, rfl, (Array.getElem?_eq_some_iff.1 k1).1, zaz.mk fun j c hj => ?_⟩
 obtain ⟨u, u1, u2⟩ := hA.at j c hj
 exact ⟨u, by simpa [World.cell?, k1] using u1, u2⟩
theorem CTf.rep {n0 : Nat -> Prop} {N : Nat} {σ : St} {g : Gh} {a : Act} {w : World} (hR : Rel n0 N σ g a w) : ∀ {bs : List Nat} {ts : List T}, CTf σ bs ts -> zad w (· < w.heap.size) ts (bs.map fun b => .pointer (some ⟨g.β b, 0, none⟩))
 | [], ts, h => by rw [show ts = [] from h]; unfold zad; rfl
 | b :: bs, ts, h => by
  obtain ⟨t, ts', rfl, h1, h2⟩ := h
  unfold zad
  exact ⟨_, _, rfl, CTb.rep hR h1, CTf.rep hR h2⟩
theorem CT.rep {n0 : Nat -> Prop} {N : Nat} {σ : St} {g : Gh} {a : Act} {w : World} (hR : Rel n0 N σ g a w) {c : C} {t : T} (h : CT σ c t) {v : Value} (hv : CR σ g w c v) : zai w (· < w.heap.size) t v := by
 unfold CT at h
 split at h
 ·rw [hv.1]; exact CTb.rep hR h
 ·obtain ⟨rfl, h⟩ := h
  rw [hv.1]
  unfold zai
  exact ⟨_, rfl, CTf.rep hR h⟩
 ·exact CT0.rep hR h hv
theorem CTs.rep {n0 : Nat -> Prop} {N : Nat} {σ : St} {g : Gh} {a : Act} {w : World} (hR : Rel n0 N σ g a w) : ∀ {cs : List C} {ts : List T}, CTs σ cs ts -> ∀ {vs : List Value}, CRs σ g w cs vs -> zad w (· < w.heap.size) ts vs
 | [], ts, h, vs, hv => by rw [show ts = [] from h]; unfold zad; exact hv
 | c :: cs, ts, h, vs, hv => by
  obtain ⟨t, ts', rfl, h1, h2⟩ := h
  obtain ⟨v, vs', rfl, k1, k2⟩ := hv
  unfold zad
  exact ⟨v, vs', rfl, CT.rep hR h1 k1, CTs.rep hR h2 k2⟩
theorem VDs.rep {n0 : Nat -> Prop} {N : Nat} {σ : St} {g : Gh} {a : Act} {w : World} (hR : Rel n0 N σ g a w) : ∀ {xs : List V} {ds : List D}, VDs σ xs ds -> ∀ {vs : List Value}, VRl σ g w xs vs -> zba w (· < w.heap.size) ds vs
 | [], ds, h, vs, hv => by rw [show ds = [] from h]; exact hv
 | x :: xs, ds, h, vs, hv => by
  obtain ⟨d, ds', rfl, h1, h2⟩ := h
  obtain ⟨v, vs', rfl, k1, k2⟩ := hv
  refine ⟨v, vs', rfl, ?_, VDs.rep hR h2 k2⟩
  unfold VD at h1
  split at h1
  ·exact CT.rep hR h1 k1
  ·obtain ⟨u, rfl, k1⟩ := k1; exact ⟨u, rfl, CTs.rep hR h1 k1⟩
  ·exact h1.elim
theorem CT1.rep {σ : St} {g : Gh} {w : World} {c : C} {t : T} (h : CT1 σ c t) {v : Value} (hv : CR σ g w c v) : zai w (Fix σ g w) t v := by
 unfold CT1 at h
 split at h
 ·subst h; exact hv
 ·subst h; exact zai.keep (fun _ _ => rfl) (fun b hb => hb.1) _ _ hv
 ·subst h
  rw [show v = .slice none 0 0 from hv]
  unfold zai
  exact ⟨none, 0, rfl, by simp, by simp, Or.inl rfl⟩
 ·obtain ⟨rfl, rfl⟩ := h
  obtain ⟨b, q, rfl, h2, h3⟩ := hv
  unfold zai
  exact ⟨b, q, by simp, h2, h3⟩
 ·obtain ⟨rfl, rfl⟩ := h
  obtain ⟨b, q, rfl, h2, h3⟩ := hv
  unfold zai
  exact ⟨b, q, by simp, h2.1, zaz.keep (fun _ _ => rfl) (fun _ hb => hb.1) b rfl q _ h3⟩
 ·exact h.elim
theorem zmj.rep {σ : St} {g : Gh} {w : World} : ∀ {cs : List C} {ts : List T}, zmj σ cs ts -> ∀ {vs : List Value}, CRs σ g w cs vs -> zad w (Fix σ g w) ts vs
 | [], ts, h, vs, hv => by rw [show ts = [] from h]; unfold zad; exact hv
 | c :: cs, ts, h, vs, hv => by
  obtain ⟨t, ts', rfl, h1, h2⟩ := h
  obtain ⟨v, vs', rfl, k1, k2⟩ := hv
  unfold zad
  exact ⟨v, vs', rfl, CT1.rep h1 k1, zmj.rep h2 k2⟩
theorem RV.rep {σ : St} {g : Gh} {w : World} : ∀ {xs : List V} {ds : List D}, RV σ xs ds -> ∀ {vs : List Value}, VRl σ g w xs vs -> zba w (Fix σ g w) ds vs
 | [], [], _, vs, hv => hv
 | .one c :: xs, .one t :: ds, h, vs, hv => by
  obtain ⟨v, vs', rfl, k1, k2⟩ := hv
  exact ⟨v, vs', rfl, CT1.rep h.1 k1, RV.rep h.2 k2⟩
 | .agg cs :: xs, .agg ts :: ds, h, vs, hv => by
  obtain ⟨v, vs', rfl, ⟨u, rfl, k1⟩, k2⟩ := hv
  exact ⟨_, vs', rfl, ⟨u, rfl, zmj.rep h.1 k1⟩, RV.rep h.2 k2⟩
theorem zas.keepA {w : World} {A A' : Nat -> Prop} (ha : ∀ b, A b -> A' b) : ∀ {ds : List (Bool × D)} {vs : List Value} {fp tp : List Nat}, zas w A ds vs fp tp -> zas w A' ds vs fp tp
 | [], _, _, _, h => h
 | (false, d) :: ds, _, _, _, h => by
  obtain ⟨v, vs', rfl, h1, h2⟩ := h
  refine ⟨v, vs', rfl, ?_, zas.keepA ha h2⟩
  cases d with
  | one t => exact zai.keep (fun _ _ => rfl) ha t _ h1
  | agg ts => obtain ⟨a, h0, h1⟩ := h1; exact ⟨a, h0, zad.keep (fun _ _ => rfl) ha ts a h1⟩
 | (true, d) :: ds, _, _, _, h => by
  obtain ⟨v, vs', f1, f2, t1, t2, rfl, rfl, rfl, h1, h2⟩ := h
  exact ⟨v, vs', f1, f2, t1, t2, rfl, rfl, rfl, h1, zas.keepA ha h2⟩
theorem GC_of {f : FuncId} {fn : Func} {c : Code} {args : List (Bool × D)} {res : List D} (hc : za8 P f) (hf : P.funcs[f]? = some fn) (hb : fn.body = some c) (hd : zcp fn.ntmps c = true) (hN : args.length <= fn.ntmps) (hs : zar args)
  (h : ex P c [] (PF P fn.results.toList res) (zci args)) : GC P f args res := by
 refine ⟨hc, fun w vs fp tp hv hn => ?_⟩
 refine calls_of_wp hf hb ?_
 have hsub : ∀ (ds : List (Bool × D)) (vs : List Value) (fp' tp' : List Nat), zas w (fun b => b < w.heap.size /\ b ∉ fp) ds vs fp' tp' -> zas w (fun b => b < w.heap.size /\ True /\ b ∉ fp) ds vs fp' tp' := by
  intro ds
  induction ds with
  | nil => rintro vs fp' tp' ⟨rfl, rfl, rfl⟩; exact ⟨rfl, rfl, rfl⟩
  | cons d ds ih =>
   intro vs fp' tp' h
   obtain ⟨b, d⟩ := d
   cases b
   ·obtain ⟨v, vs', rfl, h1, h2⟩ := h
    refine ⟨v, vs', rfl, ?_, ih _ _ _ h2⟩
    cases d with
    | one t => exact zai.keep (fun _ _ => rfl) (fun b hb => ⟨hb.1, trivial, hb.2⟩) t _ h1
    | agg ts => obtain ⟨a, h0, h1⟩ := h1; exact ⟨a, h0, zad.keep (fun _ _ => rfl) (fun b hb => ⟨hb.1, trivial, hb.2⟩) ts a h1⟩
   ·obtain ⟨v, vs', f1, f2, t1, t2, rfl, rfl, rfl, h1, h2⟩ := h
    exact ⟨v, vs', f1, f2, t1, t2, rfl, rfl, rfl, h1, ih _ _ _ h2⟩
 have hv' := hsub _ _ _ _ hv
 obtain ⟨g, hg, hR⟩ := Rel.start (A0 := fun _ => True) (R0 := RP.of fun b => b ∈ fp \/ w.heap.size <= b) (N := fn.ntmps) hv' hn hs hN (fun _ _ => trivial) (fun b hb => ⟨trivial, Or.inl hb⟩) (fun b hb => ⟨trivial, by
  by_cases hlt : b < w.heap.size
  ·exact Or.inl (Classical.byContradiction fun h => hb ⟨hlt, h⟩)
  ·exact Or.inr (by omega)⟩)
 refine wp_mono (zbi (w0 := w) c (zci args) _ hd h g _ w hR (fun k hk => hk.1) (Bk.refl _ _) hg) fun e a' w' hq => ?_
 obtain ⟨σ', g', h1, h2, h3, h4, h5⟩ := hq
 have key : zam (zbh P σ' fn.results.toList) (fun vs => zvq σ' [] vs res) -> ∃ v, (results fn a'.tmps).run P w' = .ok v w' /\ ∃ us fp' tp', Ending.returned v = .returned (zbk us) /\ GDs w' res us fp' tp' /\ fp'.Nodup /\ (∀ b ∈ fp', b ∈ fp \/ w.heap.size <= b) /\ Bk (fun k => k < w.heap.size /\ k ∉ fp) w w' := fun hk => by
  unfold zam at hk
  split at hk
  ·rename_i vs hvs
   obtain ⟨us, r1, r2⟩ := zbs h2 fn hvs
   obtain ⟨used, fp', tp', o1, o2⟩ := zdm h2 hk r2
   refine ⟨_, r1, us, fp', tp', rfl, o1, o2.1, fun b hb => ?_, h4⟩
   obtain ⟨e, _, _, l, m⟩ := o2.2.1 b hb
   have := (h2.ebase e l b m).2
   simp only [Prod.mk.injEq] at h5
   rw [h5.2] at this
   exact this
  ·exact hk.elim
 cases e with
 | normal => exact ⟨h2.defers, key h1⟩
 | ret => exact ⟨h2.defers, key h1⟩
 | exit _ => exact h1.elim
 | goto _ => exact h1.elim
 | panic _ => exact h1.elim
 | outgrown => exact h1.elim
theorem zc4 : ∀ (args : List D), zar (rd args)
 | [] => trivial
 | .one _ :: ds => zc4 ds
 | .agg _ :: ds => zc4 ds
theorem zan {f : FuncId} {fn : Func} {c : Code} {args res : List D} (hc : za8 P f) (hf : P.funcs[f]? = some fn) (hb : fn.body = some c) (hd : zcp fn.ntmps c = true) (hN : (rd args).length <= fn.ntmps)
  (h : ex P c [] (PF P fn.results.toList res) (zci (rd args))) : FC P f args res := GC_of hc hf hb hd hN (zc4 args) h
end Go.Proofs.YtaaniggpnljckaaGreat
namespace Go.Proofs.YtaaniggpnljckaaGreat
set_option linter.unusedSimpArgs false
set_option linter.unusedVariables false
set_option linter.unusedSectionVars false
set_option maxRecDepth 4000
open Go.RowKit
variable {P : Program}
def zat : V -> Option (FuncId × List V)
 | .one (.fn f caps) => some (f, caps.map fun b => .one (.bx b 0))
 | .one (.t (.fn f ts)) => some (f, ts.map fun t => .one (.t t))
 | _ => none
def zth (d : Nat) : Nat -> List D -> List V
 | _, [] => []
 | j, .one t :: ds => .one (owC d j t) :: zth d (j + 1) ds
 | j, .agg ts :: ds => .agg (zla d j ts) :: zth d (j + ts.length) ds
def cmpV : V -> Bool × List C
 | .agg cs => (true, cs)
 | .one c => (false, [c])
 | .tup _ => (false, [])
def zk6 : List V -> V
 | [v] => v
 | vs => .tup (vs.map cmpV)
def St.callF (σ : St) (d : Nat) (res : List D) : St := { sl := upd σ.sl d (zk6 (zth d 0 res)), bx := σ.bx, ev := owE d 0 (za1 res) σ.ev }
def St.callR (σ : St) (d : Option Nat) (res : List D) : St := σ.put d (zk6 (res.map D.toV))
structure New (σ : St) (g : Gh) (NB : Nat -> Prop) (w' : World) (ev' : Nat -> Option Ev) (g' : Gh) (F : List Nat) : Prop where
 β : g'.β = g.β
 A0 : g'.A0 = g.A0
 R0 : g'.R0 = g.R0
 old : ∀ e, σ.ev e ≠ none -> ev' e = σ.ev e /\ g'.ψ e = g.ψ e /\ g'.φ e = g.φ e
 new : ∀ e x, σ.ev e = none -> ev' e = some x -> (x.deep = true /\ x.on = true /\ x.gen = 0) /\ zao w' (.sl x.sz x.rows) (g'.ψ e 0) (g'.φ e) /\ (∀ b ∈ g'.φ e, NB b /\ b ∈ F) /\ (g'.φ e).Nodup
 apart : ∀ e e', σ.ev e = none -> σ.ev e' = none -> ev' e ≠ none -> ev' e' ≠ none -> e ≠ e' -> ∀ b ∈ g'.φ e, b ∉ g'.φ e'
 slc : ∀ e n, ∃ ao l c, g'.ψ e n = .slice ao l c
theorem New.refl (σ : St) (g : Gh) (NB : Nat -> Prop) (w' : World) (hs : ∀ e n, ∃ ao l c, g.ψ e n = .slice ao l c) : New σ g NB w' σ.ev g [] :=
 ⟨rfl, rfl, rfl, fun _ _ => ⟨rfl, rfl, rfl⟩, fun e x h1 h2 => by rw [h1] at h2; (cases h2), fun e e' h1 _ h3 => absurd h1 h3, hs⟩
theorem New.add {σ : St} {g : Gh} {NB : Nat -> Prop} {w' : World} {ev' : Nat -> Option Ev} {g' : Gh} {F : List Nat} (h : New σ g NB w' ev' g' F) {i sz : Nat} {rows : List (List T)} {v : Value} {fp : List Nat} (hi : σ.ev i = none) (hi' : ev' i = none)
  (ho : zao w' (.sl sz rows) v fp) (hf : ∀ b ∈ fp, NB b) (hd : fp.Nodup) (hF : ∀ b ∈ fp, b ∉ F) :
  New σ g NB w' (upd ev' i (some ⟨true, sz, rows, 0, true⟩)) ⟨g'.β, upd g'.ψ i (fun _ => v), upd g'.φ i fp, g'.A0, g'.R0⟩ (F ++ fp) := by
 refine ⟨h.β, h.A0, h.R0, fun e he => ?_, fun e x h1 h2 => ?_, fun e e' h1 h2 h3 h4 hne b hb hb' => ?_, fun e n => by
  by_cases hei : e = i
  ·subst hei; unfold zao at ho; obtain ⟨ao, cap, k1, _⟩ := ho; exact ⟨ao, _, cap, by simp only [zac]; exact k1⟩
  ·simp only [zah _ _ hei]; exact h.slc e n⟩
 ·have hne : e ≠ i := fun e' => he (e' ▸ hi)
  simp only [zah _ _ hne]
  exact h.old e he
 ·by_cases hei : e = i
  ·subst hei
   simp only [zac, Option.some.injEq] at h2 ⊢
   subst h2
   exact ⟨⟨rfl, rfl, rfl⟩, ho, fun b hb => ⟨hf b hb, by simp [hb]⟩, hd⟩
  ·simp only [zah _ _ hei] at h2 ⊢
   obtain ⟨k1, k2, k3, k4⟩ := h.new e x h1 h2
   exact ⟨k1, k2, fun b hb => ⟨(k3 b hb).1, by simp [(k3 b hb).2]⟩, k4⟩
 ·by_cases e1 : e = i <;> by_cases e2 : e' = i
  ·exact hne (e1.trans e2.symm)
  ·subst e1
   simp only [zac, zah _ _ e2] at hb hb' h4
   obtain ⟨x, hx⟩ := Option.ne_none_iff_exists'.1 h4
   exact hF b hb ((h.new e' x h2 hx).2.2.1 b hb').2
  ·subst e2
   simp only [zac, zah _ _ e1] at hb hb' h3
   obtain ⟨x, hx⟩ := Option.ne_none_iff_exists'.1 h3
   exact hF b hb' ((h.new e x h1 hx).2.2.1 b hb).2
  ·simp only [zah _ _ e1, zah _ _ e2] at hb hb' h3 h4
   exact h.apart e e' h1 h2 h3 h4 hne b hb hb'
theorem New.cells {σ : St} {g : Gh} {NB : Nat -> Prop} {w' : World} (d : Nat) : ∀ (ts : List T) (vs : List Value) (fp : List Nat) (j : Nat) (ev' : Nat -> Option Ev) (g' : Gh) (F : List Nat), New σ g NB w' ev' g' F -> (∀ e, σ.ev e = none -> ev' e ≠ none -> ∃ i, i < j /\ e = d * 32 + i) →
  zfc d j ts σ.ev -> zav w' ts vs fp -> fp.Nodup -> (∀ b ∈ fp, NB b /\ b ∉ F) →
  ∃ g'', New σ g NB w' (owE d j ts ev') g'' (F ++ fp) /\ (∀ e, (∃ i, i < j /\ e = d * 32 + i) -> ev' e ≠ none -> g''.ψ e = g'.ψ e /\ owE d j ts ev' e ≠ none) /\ ∀ (σ' : St) (w'' : World), σ'.ev = owE d j ts ev' -> CRs σ' g'' w'' (zla d j ts) vs
 | [], vs, fp, j, ev', g', F, hN, hj, hf, ho, hd, hb => by
  obtain ⟨rfl, rfl⟩ := ho
  exact ⟨g', by simpa [owE] using hN, fun e _ h => ⟨rfl, h⟩, fun _ _ _ => rfl⟩
 | t :: ts, vs, fp, j, ev', g', F, hN, hj, hf, ho, hd, hb => by
  obtain ⟨v, vs', f1, f2, rfl, rfl, h1, h2⟩ := ho
  obtain ⟨hf1, hf2⟩ := hf
  obtain ⟨hd1, hd2, hd3⟩ := List.nodup_append.1 hd
  have flat : t.flat = true -> f1 = [] /\ owC d j t = .t t /\ zox d j ev' t = ev' /\ ∀ (σ' : St) (g'' : Gh) (w'' : World), CR σ' g'' w'' (.t t) v := fun hfl => by
   cases t <;> simp only [T.flat, Bool.false_eq_true] at hfl
   ·unfold zao at h1; exact ⟨h1.2.2.2, rfl, rfl, fun _ _ _ => by simp only [CR, zai]; exact ⟨h1.1, h1.2.1, h1.2.2.1⟩⟩
   ·unfold zao at h1; exact ⟨h1.2, rfl, rfl, fun _ _ _ => by simp only [CR, zai]; exact h1.1⟩
   ·unfold zao at h1; exact ⟨h1.2.2, rfl, rfl, fun _ _ _ => by simp only [CR, zai]; exact ⟨h1.1, h1.2.1⟩⟩
   ·unfold zao at h1; exact ⟨h1.2, rfl, rfl, fun _ _ _ => by simp only [CR, zai]; exact h1.1⟩
  by_cases hfl : t.flat = true
  ·obtain ⟨rfl, c2, c3, c4⟩ := flat hfl
   obtain ⟨g'', k1, k2, k3⟩ := New.cells d ts vs' f2 (j + 1) ev' g' F hN (fun e h1 h2 => by obtain ⟨i, hi, he⟩ := hj e h1 h2; exact ⟨i, by omega, he⟩) hf2 h2 hd2 (fun b hb' => hb b (by simp [hb']))
   refine ⟨g'', by simpa [owE, c3] using k1, fun e he h => ?_, fun σ' w'' hσ => ⟨v, vs', rfl, by rw [c2]; exact c4 _ _ _, k3 σ' w'' (by simpa [owE, c3] using hσ)⟩⟩
   obtain ⟨i, hi, he⟩ := he
   have := k2 e ⟨i, by omega, he⟩ h
   simpa [owE, c3] using this
  ·cases t <;> simp only [T.flat, Bool.false_eq_true, not_false_eq_true, not_true] at hfl
   ·rename_i sz rows
    have hi : σ.ev (d * 32 + j) = none := hf1
    have hi' : ev' (d * 32 + j) = none := by
     cases hx : ev' (d * 32 + j) with
     | none => rfl
     | some x => obtain ⟨i, h3, h4⟩ := hj _ hi (by rw [hx]; simp); omega
    have hadd := hN.add hi hi' h1 (fun b hb' => (hb b (by simp [hb'])).1) hd1 (fun b hb' => (hb b (by simp [hb'])).2)
    obtain ⟨g'', k1, k2, k3⟩ := New.cells d ts vs' f2 (j + 1) _ _ _ hadd (fun e h3 h4 => by
      by_cases he : e = d * 32 + j
      ·exact ⟨j, by omega, he⟩
      ·rw [zah _ _ he] at h4
       obtain ⟨i, hi, he⟩ := hj e h3 h4; exact ⟨i, by omega, he⟩) hf2 h2 hd2 (fun b hb' => ⟨(hb b (by simp [hb'])).1, by
       have := (hb b (by simp [hb'])).2
       simp only [List.mem_append, not_or]
       exact ⟨this, fun hf => hd3 b hf b hb' rfl⟩⟩)
    refine ⟨g'', by simpa [owE, zox] using k1, fun e he h => ?_, fun σ' w'' hσ => ⟨v, vs', rfl, ?_, k3 σ' w'' hσ⟩⟩
    ·obtain ⟨i, hi2, he⟩ := he
     have hne : e ≠ d * 32 + j := by omega
     have := k2 e ⟨i, by omega, he⟩ (by rw [zah _ _ hne]; exact h)
     simp only [zah _ _ hne] at this
     exact this
    ·have := k2 (d * 32 + j) ⟨j, by omega, rfl⟩ (by rw [zac]; simp)
     simp only [zac] at this
     obtain ⟨y, hy⟩ := Option.ne_none_iff_exists'.1 this.2
     exact ⟨by rw [this.1], y, by rw [hσ]; exact hy, Nat.zero_le _⟩
   ·unfold zao at h1; exact h1.elim
   ·unfold zao at h1; exact h1.elim
   ·unfold zao at h1; exact h1.elim
   ·exact (show False from hf1).elim
   ·unfold zao at h1; exact h1.elim
   ·unfold zao at h1; exact h1.elim
   ·unfold zao at h1; exact h1.elim
theorem Rel.after {n0 : Nat -> Prop} {N : Nat} {σ : St} {g g' : Gh} {a : Act} {w w' : World} {ev' : Nat -> Option Ev} {F : List Nat} (h : Rel n0 N σ g a w) (hn0 : LtK n0 w) (hb : Below w.heap.size w w') (hn : New σ g (w.heap.size <= ·) w' ev' g' F) : Rel n0 N { σ with ev := ev' } g' a w' := by
 have hlt : ∀ e x, σ.ev e = none -> ev' e = some x -> ∀ b ∈ g'.φ e, w.heap.size <= b := fun e x h1 h2 b hbb => ((hn.new e x h1 h2).2.2.1 b hbb).1
 have hold : ∀ e, σ.On e -> ∀ b ∈ g.φ e, b < w.heap.size := fun e he b hbb => by
  obtain ⟨x, hx, ho⟩ := he
  exact (h.evs e x hx ho).lt b hbb
 have hon : ∀ e, ({ σ with ev := ev' } : St).On e -> σ.ev e ≠ none -> σ.On e := fun e he hee => by
  obtain ⟨x, hx, ho⟩ := he
  exact ⟨x, (hn.old e hee).1.symm.trans hx, ho⟩
 have hne : ∀ e, ({ σ with ev := ev' } : St).On e -> ∃ x, ev' e = some x := fun e he => ⟨_, he.choose_spec.1⟩
 have m : Mv σ { σ with ev := ev' } g g' w w' := by
  refine ⟨fun b hf => hb.block b hf.2.2.1, fun b hf => ⟨fun k hk => by rw [hn.β]; exact hf.1 k hk, fun e x hx ho hh => ?_, Nat.lt_of_lt_of_le hf.2.2.1 hb.size, by rw [hn.A0]; exact hf.2.2.2⟩, fun b hbb => ⟨by rw [hn.β], hbb⟩, fun e n he => ?_, fun b hf e he hm => ?_⟩
  ·by_cases hee : σ.ev e = none
   ·have := hlt e x hee hx b (List.mem_of_mem_head? hh)
    have := hf.2.2.1
    omega
   ·rw [(hn.old e hee).2.2] at hh
    exact hf.2.1 e x ((hn.old e hee).1.symm.trans hx) ho hh
  ·obtain ⟨x, hx, hg⟩ := he
   have hee : σ.ev e ≠ none := by rw [hx]; simp
   exact ⟨⟨x, (hn.old e hee).1.trans hx, hg⟩, by rw [(hn.old e hee).2.1]⟩
  ·by_cases hee : σ.ev e = none
   ·obtain ⟨x, hx⟩ := hne e he
    have := hlt e x hee hx b hm
    have := hf.1.2.2.1
    omega
   ·rw [(hn.old e hee).2.2] at hm
    exact hf.2 e (hon e he hee) hm
 refine ⟨h.defers, h.size, by rw [hn.A0, hn.R0]; exact h.anew, fun i => by rw [hn.R0]; exact m.vr (h.slots i), fun b cs hbb => ?_, fun b hbb => by rw [hn.β]; exact h.base b hbb, fun b b' h1 h2 h3 => by rw [hn.β] at h3; exact h.inj b b' h1 h2 h3, fun e x he ho => ?_, fun e x he ho => ?_, hn.slc, fun e he b hbb => ?_, fun e he b hbb => ?_, fun e he => ?_, fun e e' h1 h2 hne' b hb1 hb2 => ?_, fun e k he hk hm => ?_⟩
 ·obtain ⟨vs, ty, k1, k2⟩ := h.boxes b cs hbb
  exact ⟨vs, ty, by rw [hn.β, hb.block _ (h.lt (by rw [hbb]; simp))]; exact k1, m.crs k2⟩
 ·by_cases hee : σ.ev e = none
  ·obtain ⟨⟨k1, _, k0⟩, k2, k3, k4⟩ := hn.new e x hee he
   rw [k0]
   unfold zao at k2
   obtain ⟨ao, cap, j1, j2, j3, j4⟩ := k2
   refine ⟨ao, cap, j1, j2, j3, ?_⟩
   rcases j4 with j4 | ⟨b, cells, ty, fps, j4, j5, j6, j7, j8⟩
   ·exact Or.inl j4
   ·exact Or.inr ⟨b, cells, ty, fps, j4, j5, j6, j7, by rw [if_pos k1]; exact j8⟩
  ·have he' := he
   simp only [(hn.old e hee).1] at he
   rw [(hn.old e hee).2.1, (hn.old e hee).2.2]
   exact m.evr (h.evs e x he ho) fun b hbb => hb.block b (hold e ⟨x, he, ho⟩ b hbb)
 ·by_cases hee : σ.ev e = none
  ·obtain ⟨⟨_, k1, _⟩, _⟩ := hn.new e x hee he
   rw [k1] at ho; cases ho
  ·simp only [(hn.old e hee).1] at he
   rw [(hn.old e hee).2.1]
   exact ⟨m.rep (h.offs e x he ho).1, (h.offs e x he ho).2⟩
 ·by_cases hee : σ.ev e = none
  ·obtain ⟨x, hx⟩ := hne e he
   rw [hn.A0, hn.R0]
   exact h.anew b (hn0.new (hlt e x hee hx b hbb))
  ·rw [(hn.old e hee).2.2] at hbb
   rw [hn.A0, hn.R0]
   exact h.ebase e (hon e he hee) b hbb
 ·by_cases hee : σ.ev e = none
  ·obtain ⟨x, hx⟩ := hne e he
   exact hn0.new (hlt e x hee hx b hbb)
  ·rw [(hn.old e hee).2.2] at hbb
   exact h.etop e (hon e he hee) b hbb
 ·by_cases hee : σ.ev e = none
  ·obtain ⟨x, hx⟩ := hne e he
   exact (hn.new e x hee hx).2.2.2
  ·rw [(hn.old e hee).2.2]; exact h.nodup e (hon e he hee)
 ·obtain ⟨x, hx⟩ := hne e h1
  obtain ⟨x', hx'⟩ := hne e' h2
  by_cases e1 : σ.ev e = none <;> by_cases e2 : σ.ev e' = none
  ·exact hn.apart e e' e1 e2 (by rw [hx]; simp) (by rw [hx']; simp) hne' b hb1 hb2
  ·rw [(hn.old e' e2).2.2] at hb2
   have := hlt e x e1 hx b hb1
   have := hold e' (hon e' h2 e2) b hb2
   omega
  ·rw [(hn.old e e1).2.2] at hb1
   have := hlt e' x' e2 hx' b hb2
   have := hold e (hon e h1 e1) b hb1
   omega
  ·rw [(hn.old e e1).2.2] at hb1
   rw [(hn.old e' e2).2.2] at hb2
   exact h.apart e e' (hon e h1 e1) (hon e' h2 e2) hne' b hb1 hb2
 ·rw [hn.β] at hm
  by_cases hee : σ.ev e = none
  ·obtain ⟨x, hx⟩ := hne e he
   have := hlt e x hee hx _ hm
   have := h.lt hk
   omega
  ·rw [(hn.old e hee).2.2] at hm
   exact h.ebx e k (hon e he hee) hk hm
theorem zao.one {w : World} : ∀ {t : T} {v : Value} {fp : List Nat}, zao w t v fp -> v.cells = #[v]
 | .int _ _, _, _, h => by unfold zao at h; rw [h.1]; rfl
 | .bool _, _, _, h => by unfold zao at h; rw [h.1]; rfl
 | .str _, _, _, h => by unfold zao at h; rw [h.1]; rfl
 | .sl _ _, _, _, h => by unfold zao at h; obtain ⟨_, _, rfl, _⟩ := h; rfl
 | .ptr _, _, _, h => by unfold zao at h; exact h.elim
 | .fn _ _, _, _, h => by unfold zao at h; exact h.elim
 | .mp _ _, _, _, h => by unfold zao at h; exact h.elim
 | .pin _ _, _, _, h => by unfold zao at h; exact zao.one h.2
 | .vs _ _ _, _, _, h => by unfold zao at h; rw [h.1]; rfl
theorem zav.append {w : World} : ∀ {t1 t2 : List T} {v1 v2 : List Value} {f1 f2 : List Nat}, zav w t1 v1 f1 -> zav w t2 v2 f2 -> zav w (t1 ++ t2) (v1 ++ v2) (f1 ++ f2)
 | [], _, _, _, _, _, h, k => by obtain ⟨rfl, rfl⟩ := h; exact k
 | t :: ts, _, _, _, _, _, h, k => by
  obtain ⟨v, vs', g1, g2, rfl, rfl, h1, h2⟩ := h
  exact ⟨v, vs' ++ _, g1, g2 ++ _, rfl, by simp, h1, zav.append h2 k⟩
theorem zga.cells {w : World} : ∀ {ds : List D} {us : List Value} {fp : List Nat}, zga w ds us fp -> zav w (za1 ds) (us.flatMap fun u => u.cells.toList) fp
 | [], us, fp, h => by obtain ⟨rfl, rfl⟩ := h; exact ⟨rfl, rfl⟩
 | .one t :: ds, us, fp, h => by
  obtain ⟨v, vs', f1, f2, rfl, rfl, h1, h2⟩ := h
  have hv : zao w t v f1 := h1
  refine ⟨v, _, f1, f2, ?_, rfl, hv, zga.cells h2⟩
  simp [hv.one]
 | .agg ts :: ds, us, fp, h => by
  obtain ⟨v, vs', f1, f2, rfl, rfl, ⟨x, rfl, h1⟩, h2⟩ := h
  have := h1.append (zga.cells h2)
  simpa [za1, Value.cells] using this
theorem zir (d : Nat) : ∀ (t1 t2 : List T) (j : Nat), zla d j (t1 ++ t2) = zla d j t1 ++ zla d (j + t1.length) t2
 | [], _, _ => by simp [zla]
 | t :: ts, t2, j => by simp only [List.cons_append, zla, zir d ts t2 (j + 1), List.length_cons]; rw [show j + 1 + ts.length = j + (ts.length + 1) by omega]
theorem CRs.split {σ : St} {g : Gh} {w : World} : ∀ {cs ds : List C} {vs : List Value}, CRs σ g w (cs ++ ds) vs -> ∃ v1 v2, vs = v1 ++ v2 /\ CRs σ g w cs v1 /\ CRs σ g w ds v2
 | [], _, vs, h => ⟨[], vs, rfl, rfl, h⟩
 | c :: cs, ds, vs, h => by
  obtain ⟨v, vs', rfl, h1, h2⟩ := h
  obtain ⟨v1, v2, rfl, k1, k2⟩ := CRs.split h2
  exact ⟨v :: v1, v2, rfl, ⟨v, v1, rfl, h1, k1⟩, k2⟩
theorem zrr (d : Nat) : ∀ (ts : List T) (j : Nat), (zla d j ts).length = ts.length
 | [], _ => rfl
 | t :: ts, j => by simp [zla, zrr d ts]
theorem zio {σ : St} {g : Gh} {w w1 : World} (d : Nat) : ∀ {ds : List D} {us : List Value} {fp : List Nat} (j : Nat), zga w1 ds us fp -> CRs σ g w (zla d j (za1 ds)) (us.flatMap fun u => u.cells.toList) -> VRl σ g w (zth d j ds) us
 | [], us, fp, j, h, _ => h.1
 | .one t :: ds, us, fp, j, h, k => by
  obtain ⟨v, vs', f1, f2, rfl, rfl, h1, h2⟩ := h
  have hv : zao w1 t v f1 := h1
  simp only [List.flatMap_cons, hv.one, za1, zla] at k
  obtain ⟨u, us', e, k1, k2⟩ := k
  simp only [List.cons_append, List.nil_append, List.cons.injEq] at e
  obtain ⟨rfl, rfl⟩ := e
  exact ⟨v, vs', rfl, k1, zio d (j + 1) h2 k2⟩
 | .agg ts :: ds, us, fp, j, h, k => by
  obtain ⟨v, vs', f1, f2, rfl, rfl, ⟨x, rfl, h1⟩, h2⟩ := h
  simp only [List.flatMap_cons, Value.cells, za1, zir] at k
  obtain ⟨v1, v2, e, k1, k2⟩ := k.split
  have hl : x.length = v1.length := by
   rw [k1.len, zrr]
   clear k k1 k2 e h2
   induction ts generalizing x f1 with
   | nil => rw [h1.1]; rfl
   | cons t ts ih => obtain ⟨v, vs', g1, g2, rfl, rfl, _, h3⟩ := h1; simp [ih _ _ h3]
  obtain ⟨e1, e2⟩ := List.append_inj e hl
  subst e1 e2
  exact ⟨_, vs', rfl, ⟨x, rfl, k1⟩, zio d (j + ts.length) h2 k2⟩
theorem zd1 {σ : St} {g : Gh} {w : World} {xs : List V} {us : List Value} (h : VRl σ g w xs us) (hx : ∀ x ∈ xs, x.isTup = false) : VR σ g w (zk6 xs) (zbk us) := by
 have key : ∀ (xs : List V) (us : List Value), VRl σ g w xs us -> (∀ x ∈ xs, x.isTup = false) -> CRt σ g w (xs.map cmpV) us := by
  intro xs
  induction xs with
  | nil => intro us h _; exact h
  | cons x xs ih =>
   rintro us ⟨u, us', rfl, h1, h2⟩ hx
   refine ⟨u, us', rfl, ?_, ih us' h2 fun y hy => hx y (by simp [hy])⟩
   cases x with
   | one c => unfold CRx cmpV; simp only [Bool.false_eq_true, if_false]; exact ⟨c, rfl, h1⟩
   | agg cs => unfold CRx cmpV; simp only [if_true]; exact h1
   | tup _ => have := hx _ (List.mem_cons_self ..); simp [V.isTup] at this
 rcases xs with _ | ⟨x, _ | ⟨y, xs⟩⟩
 ·rw [show us = [] from h]; exact ⟨[], rfl, rfl⟩
 ·obtain ⟨u, us', rfl, h1, h2⟩ := h
  rw [show us' = [] from h2]
  exact h1
 ·obtain ⟨u, us', rfl, h1, u', us'', rfl, h2⟩ := h
  exact ⟨_, rfl, key (x :: y :: xs) _ ⟨u, _, rfl, h1, u', us'', rfl, h2⟩ hx⟩
theorem zfi (d : Nat) : ∀ (ds : List D) (j : Nat), ∀ x ∈ zth d j ds, x.isTup = false
 | [], _, x, hx => by simp [zth] at hx
 | .one t :: ds, j, x, hx => by
  simp only [zth, List.mem_cons] at hx
  rcases hx with rfl | hx
  ·rfl
  ·exact zfi d ds _ x hx
 | .agg ts :: ds, j, x, hx => by
  simp only [zth, List.mem_cons] at hx
  rcases hx with rfl | hx
  ·rfl
  ·exact zfi d ds _ x hx
theorem zn9 {n0 : Nat -> Prop} {N : Nat} {σ : St} {g : Gh} {a : Act} {w : World} (hR : Rel n0 N σ g a w) (xs : Array Operand) (ts : Array TypeId) : VRl σ g w (σ.gets P xs ts) (xs.toList.map a.eval) := by
 unfold St.gets
 have key : ∀ (l : List Operand) (ts : List TypeId), l.length <= ts.length -> VRl σ g w ((l.zip ts).map fun (x, t) => σ.get P t x) (l.map a.eval) := by
  intro l
  induction l with
  | nil => intro ts _; rfl
  | cons x l ih =>
   intro ts h
   cases ts with
   | nil => simp at h
   | cons t ts => exact ⟨_, _, rfl, hR.get P t x, ih ts (by simpa using h)⟩
 exact key _ _ (by simp)
theorem VRl.append {σ : St} {g : Gh} {w : World} : ∀ {x1 x2 : List V} {u1 u2 : List Value}, VRl σ g w x1 u1 -> VRl σ g w x2 u2 -> VRl σ g w (x1 ++ x2) (u1 ++ u2)
 | [], _, u1, _, h, k => by rw [show u1 = [] from h]; exact k
 | x :: xs, _, _, _, h, k => by
  obtain ⟨u, us', rfl, h1, h2⟩ := h
  exact ⟨u, _, rfl, h1, VRl.append h2 k⟩
theorem zcj {n0 : Nat -> Prop} {N : Nat} {σ : St} {g : Gh} {a : Act} {w : World} (hR : Rel n0 N σ g a w) {o : Oper} {x : Operand} {asx : Array Operand} {ts : Array TypeId} {f : FuncId} {cvs : List V} (ho : o.op = .call ⟨.value x, asx, ts⟩)
  (hc : zat (σ.get P 0 x) = some (f, cvs)) (hf : za8 P f) : ∃ vs, (execOp a.eval o).run P w = .ok (.enter f ⟨vs⟩) w /\ VRl σ g w (σ.gets P asx ts ++ cvs) vs := by
 have hv := hR.get P 0 x
 unfold zat at hc
 split at hc
 ·rename_i f' caps hx
  simp only [Option.some.injEq, Prod.mk.injEq] at hc
  obtain ⟨rfl, rfl⟩ := hc
  rw [hx] at hv
  obtain ⟨h1, h2⟩ := hv
  refine ⟨asx.toList.map a.eval ++ caps.map fun b => .pointer (some ⟨g.β b, 0, none⟩), ?_, (zn9 hR asx ts).append ?_⟩
  ·unfold execOp
   simp only [ho, resolve, h1, Deferred.ofValue, invoke, Sem.run_bind, Sem.run_pure, Result.andThen]
   refine (hf _ w).trans ?_
   congr 2
   apply Array.ext'
   simp
  ·clear h1 hx
   induction caps with
   | nil => rfl
   | cons b bs ih => exact ⟨_, _, rfl, ⟨rfl, h2 b (by simp)⟩, ih fun c hc => h2 c (by simp [hc])⟩
 ·rename_i f' tsT hx
  simp only [Option.some.injEq, Prod.mk.injEq] at hc
  obtain ⟨rfl, rfl⟩ := hc
  rw [hx] at hv
  simp only [VR, CR, zai] at hv
  obtain ⟨us, h1, h2⟩ := hv
  refine ⟨asx.toList.map a.eval ++ us, ?_, (zn9 hR asx ts).append ?_⟩
  ·unfold execOp
   simp only [ho, resolve, h1, Deferred.ofValue, invoke, Sem.run_bind, Sem.run_pure, Result.andThen]
   refine (hf _ w).trans ?_
   congr 2
   apply Array.ext'
   simp
  ·clear h1 hx
   induction tsT generalizing us with
   | nil => unfold zad at h2; exact h2
   | cons t ts ih =>
    unfold zad at h2
    obtain ⟨v, vs', rfl, k1, k2⟩ := h2
    exact ⟨_, _, rfl, k1, ih _ k2⟩
 ·cases hc
theorem zav.of_g {w : World} : ∀ {ts : List T} {vs : List Value} {fp tp : List Nat}, ztm w ts vs fp tp -> zav w ts vs fp
 | [], _, _, _, h => ⟨h.1, h.2.1⟩
 | t :: ts, _, _, _, h => by obtain ⟨v, vs', f1, f2, t2, rfl, rfl, _, h1, h2⟩ := h; exact ⟨v, vs', f1, f2, rfl, rfl, h1, zav.of_g h2⟩
theorem zga.of_g {w : World} : ∀ {ds : List D} {vs : List Value} {fp tp : List Nat}, GDs w ds vs fp tp -> zga w ds vs fp
 | [], _, _, _, h => ⟨h.1, h.2.1⟩
 | .one t :: ds, _, _, _, h => by obtain ⟨v, vs', f1, f2, t1, t2, rfl, rfl, _, h1, h2⟩ := h; exact ⟨v, vs', f1, f2, rfl, rfl, h1.1, zga.of_g h2⟩
 | .agg ts :: ds, _, _, _, h => by obtain ⟨v, vs', f1, f2, t1, t2, rfl, rfl, _, ⟨a, h0, h1⟩, h2⟩ := h; exact ⟨v, vs', f1, f2, rfl, rfl, ⟨a, h0, zav.of_g h1⟩, zga.of_g h2⟩
theorem zba.gargs {w : World} : ∀ {ds : List D} {vs : List Value}, zba w (· < w.heap.size) ds vs -> zas w (fun b => b < w.heap.size /\ b ∉ ([] : List Nat)) (rd ds) vs [] []
 | [], vs, h => ⟨h, rfl, rfl⟩
 | .one t :: ds, vs, h => by obtain ⟨v, vs', rfl, h1, h2⟩ := h; exact ⟨v, vs', rfl, zai.keep (fun _ _ => rfl) (fun b hb => ⟨hb, by simp⟩) t v h1, zba.gargs h2⟩
 | .agg ts :: ds, vs, h => by obtain ⟨v, vs', rfl, ⟨a, h0, h1⟩, h2⟩ := h; exact ⟨v, vs', rfl, ⟨a, h0, zad.keep (fun _ _ => rfl) (fun b hb => ⟨hb, by simp⟩) ts a h1⟩, zba.gargs h2⟩
theorem FC.use {f : FuncId} {args res : List D} (h : FC P f args res) {w : World} {vs : List Value} (hv : zba w (· < w.heap.size) args vs) :
  Calls P f ⟨vs⟩ w fun e w' => ∃ us fp, e = .returned (zbk us) /\ zga w' res us fp /\ fp.Nodup /\ (∀ b ∈ fp, w.heap.size <= b) /\ Below w.heap.size w w' := by
 refine (h.2 w vs [] [] hv.gargs List.nodup_nil).mono ?_
 rintro e w' ⟨us, fp, tp, rfl, h1, h2, h3, h5⟩
 exact ⟨us, fp, rfl, zga.of_g h1, h2, fun b hb => (h3 b hb).resolve_left (by simp), h5.os, h5.tape, h5.output, h5.size, fun k hk => h5.block k ⟨hk, by simp⟩⟩
theorem znb {o : Oper} {σ : St} {x : Operand} {asx : Array Operand} {ts : Array TypeId} {f : FuncId} {cvs : List V} {d : Nat} {ds res : List D} (ho : o.op = .call ⟨.value x, asx, ts⟩) (hd : o.dst = some d)
  (h : FC P f ds res) (hc : zat (σ.get P 0 x) = some (f, cvs)) (hv : VDs σ (σ.gets P asx ts ++ cvs) ds) (hf : zfc d 0 (za1 res) σ.ev) : zae P o σ (σ.callF d res) := by
 intro n0 N g a w hR hn hdN
 obtain ⟨vs, h1, h2⟩ := zcj hR ho hc h.1
 unfold Oper.wp
 rw [h1]
 refine (h.use (VDs.rep hR hv h2)).mono ?_
 rintro e w' ⟨us, fp, rfl, o1, o2, o3, hb⟩
 obtain ⟨g', k1, k2, k3⟩ := New.cells (σ := σ) (g := g) (NB := (w.heap.size <= ·)) (w' := w') d (za1 res) _ fp 0 σ.ev g [] (New.refl _ _ _ _ hR.slc) (fun e h1 h2 => absurd h1 h2) hf o1.cells o2 (fun b hb' => ⟨o3 b hb', by simp⟩)
 have hR' := hR.after hn hb k1
 refine ⟨g', ?_, Bk.of_below hb hn, k1.A0, k1.R0⟩
 have hp := hR'.put (some d) (x := zk6 (zth d 0 res)) (v := zbk us) (zd1 (zio d 0 o1 (k3 _ _ rfl)) (zfi d res 0)) (fun i hi => by cases hi; exact hdN d hd)
 rw [hd]
 exact hp
theorem zba.vrl {σ : St} {g : Gh} {w : World} : ∀ {ds : List D} {us : List Value}, zba w (Fix σ g w) ds us -> VRl σ g w (ds.map D.toV) us
 | [], us, h => h
 | d :: ds, us, h => by
  obtain ⟨u, us', rfl, h1, h2⟩ := h
  exact ⟨u, us', rfl, qdx h1, zba.vrl h2⟩
def VD1 (σ : St) : V -> D -> Prop
 | .one c, .one t => CT1 σ c t
 | .agg cs, .agg ts => zmj σ cs ts
 | _, _ => False
def zm7 (σ : St) : List V -> List D -> Prop
 | [], ds => ds = []
 | v :: vs, ds => ∃ d ds', ds = d :: ds' /\ VD1 σ v d /\ zm7 σ vs ds'
theorem zm7.rep {σ : St} {g : Gh} {w : World} : ∀ {xs : List V} {ds : List D}, zm7 σ xs ds -> ∀ {vs : List Value}, VRl σ g w xs vs -> zba w (Fix σ g w) ds vs
 | [], ds, h, vs, hv => by rw [show ds = [] from h]; exact hv
 | x :: xs, ds, h, vs, hv => by
  obtain ⟨d, ds', rfl, h1, h2⟩ := h
  obtain ⟨v, vs', rfl, k1, k2⟩ := hv
  refine ⟨v, vs', rfl, ?_, zm7.rep h2 k2⟩
  unfold VD1 at h1
  split at h1
  ·exact CT1.rep h1 k1
  ·obtain ⟨u, rfl, k1⟩ := k1; exact ⟨u, rfl, zmj.rep h1 k1⟩
  ·exact h1.elim
theorem zl5 {o : Oper} {σ : St} {x : Operand} {asx : Array Operand} {ts : Array TypeId} {f : FuncId} {cvs : List V} {ds res : List D} (ho : o.op = .call ⟨.value x, asx, ts⟩)
  (h : RC P f ds res) (hc : zat (σ.get P 0 x) = some (f, cvs)) (hv : zm7 σ (σ.gets P asx ts ++ cvs) ds) : zae P o σ (σ.callR o.dst res) := by
 intro n0 N g a w hR hn hdN
 obtain ⟨vs, h1, h2⟩ := zcj hR ho hc h.1
 unfold Oper.wp
 rw [h1]
 have hargs := (zm7.rep hv h2).keep (A' := fun b => b < w.heap.size /\ Fix σ g w b) (fun _ _ => rfl) fun b hb => ⟨hb.2.2.1, hb⟩
 refine (h.2 w vs (Fix σ g w) hargs).mono ?_
 rintro e w' ⟨us, rfl, o1, hb⟩
 have hR' : Rel n0 N σ g a w' := hR.after hn hb (New.refl σ g (w.heap.size <= ·) w' hR.slc)
 refine ⟨g, ?_, Bk.of_below hb hn, rfl, rfl⟩
 have hfix : ∀ b, (b < w'.heap.size /\ (Fix σ g w b \/ w.heap.size <= b)) -> Fix σ g w' b := fun b hb' => by
  rcases hb'.2 with hf | hf
  ·exact ⟨hf.1, hf.2.1, hb'.1, hf.2.2.2⟩
  ·refine ⟨fun k hk e => by have := hR.lt hk; omega, fun e x hx ho hh => ?_, hb'.1, (hR.anew b (hn.new hf)).1⟩
   have := (hR.evs e x hx ho).lt b (List.mem_of_mem_head? hh)
   omega
 exact hR'.put o.dst (zd1 (zba.vrl (o1.keep (fun _ _ => rfl) hfix)) (fun y hy => by
  obtain ⟨d, _, rfl⟩ := List.mem_map.1 hy
  cases d <;> rfl)) hdN
section
variable {ks : List Fr} {Q : Exit -> St -> Prop} {σ : St} {ops : Array Oper} {os : List Oper} {ty : TypeId} {ps : String} {af : Array Edge}
theorem zca {o : Oper} {σ' : St} (hg : o.guard = none) (hs : zsy o.op = true) (h : zae P o σ σ') (k : exo P ops os ks Q σ') : exo P ops (o :: os) ks Q σ := by
 unfold exo zbj exG
 rw [hg]
 simp only
 unfold zbx zkk
 rw [if_pos (by rw [hs]; rfl)]
 exact h.toX k
theorem callF {d : Nat} {x : Operand} {asx : Array Operand} {ts : Array TypeId} {f : FuncId} {ds res : List D} (h : FC P f ds res) (hp : zam (zat (σ.get P 0 x)) fun p => p.1 = f /\ VDs σ (σ.gets P asx ts ++ p.2) ds /\ zfc d 0 (za1 res) σ.ev)
  (k : exo P ops os ks Q (σ.callF d res)) : exo P ops (⟨some d, .call ⟨.value x, asx, ts⟩, ty, ps, af, none⟩ :: os) ks Q σ :=
 by
 obtain ⟨⟨f', cvs⟩, h1, rfl, h2, h3⟩ := zal hp
 exact zca rfl rfl (znb rfl rfl h h1 h2 h3) k
theorem callR {d : Option Nat} {x : Operand} {asx : Array Operand} {ts : Array TypeId} {f : FuncId} {ds res : List D} (h : RC P f ds res) (hp : zam (zat (σ.get P 0 x)) fun p => p.1 = f /\ zm7 σ (σ.gets P asx ts ++ p.2) ds)
  (k : exo P ops os ks Q (σ.callR d res)) : exo P ops (⟨d, .call ⟨.value x, asx, ts⟩, ty, ps, af, none⟩ :: os) ks Q σ :=
 by
 obtain ⟨⟨f', cvs⟩, h1, rfl, h2⟩ := zal hp
 exact zca rfl rfl (zl5 rfl h h1 h2) k
end
section
variable (ks : List Fr) (Q : Exit -> St -> Prop) (σ : St) (ops : Array Oper) (os : List Oper) (d : Option Nat) (ty : TypeId) (ps : String) (af : Array Edge)
theorem zob (x : Operand) (i : Nat) : exo P ops (⟨d, .extract x i, ty, ps, af, none⟩ :: os) ks Q σ = thn (st P ⟨d, .extract x i, ty, ps, af, none⟩ σ) (exo P ops os ks Q) := rfl
theorem zku (t : TypeId) (x : Operand) (i : Nat) : exo P ops (⟨d, .fieldAddr t x i, ty, ps, af, none⟩ :: os) ks Q σ = thn (st P ⟨d, .fieldAddr t x i, ty, ps, af, none⟩ σ) (exo P ops os ks Q) := rfl
theorem zyl (t : TypeId) (x i : Operand) : exo P ops (⟨d, .index t x i, ty, ps, af, none⟩ :: os) ks Q σ = thn (st P ⟨d, .index t x i, ty, ps, af, none⟩ σ) (exo P ops os ks Q) := rfl
theorem znz (x : Operand) : exo P ops (⟨d, .nilCheck x, ty, ps, af, none⟩ :: os) ks Q σ = thn (st P ⟨d, .nilCheck x, ty, ps, af, none⟩ σ) (exo P ops os ks Q) := rfl
theorem zo6 (s t : TypeId) (x : Operand) : exo P ops (⟨d, .convert s t x, ty, ps, af, none⟩ :: os) ks Q σ = thn (st P ⟨d, .convert s t x, ty, ps, af, none⟩ σ) (exo P ops os ks Q) := rfl
theorem zt8 (t : TypeId) : exo P ops (⟨d, .alloc t, ty, ps, af, none⟩ :: os) ks Q σ = thn (st P ⟨d, .alloc t, ty, ps, af, none⟩ σ) (exo P ops os ks Q) := rfl
theorem qf9 (t : TypeId) (x : Operand) : exo P ops (⟨d, .box t x, ty, ps, af, none⟩ :: os) ks Q σ = thn (st P ⟨d, .box t x, ty, ps, af, none⟩ σ) (exo P ops os ks Q) := rfl
def ztq (P : Program) (ops : Array Oper) (o : Oper) (os : List Oper) (ks : List Fr) (Q : Exit -> St -> Prop) (σ : St) : Prop := za9 P o σ (exo P ops os ks Q)
def zgr (v : V) (A B : Prop) : Prop := if isEo v = true then A else B
theorem zvh (t : TypeId) (a x : Operand) : exo P ops (⟨d, .store t a x, ty, ps, af, none⟩ :: os) ks Q σ = zgr (σ.get P 0 a) (ztq P ops ⟨d, .store t a x, ty, ps, af, none⟩ os ks Q σ) (thn (st P ⟨d, .store t a x, ty, ps, af, none⟩ σ) (exo P ops os ks Q)) := by
 unfold zgr
 split
 ·rename_i h
  unfold exo
  rw [zbj]
  unfold exG
  simp only
  unfold zbx
  rw [if_pos (by unfold zkk ztt; simp only [h, Bool.or_true])]
  rfl
 ·rename_i h
  unfold exo
  rw [zbj]
  unfold exG
  simp only
  unfold zbx
  rw [if_neg (by unfold zkk ztt; simpa [zsy] using h)]
  rfl
theorem zx1 (b o : Nat) (A B : Prop) : zgr (.one (.bx b o)) A B = B := by simp [zgr, isEo]
theorem zue (e g z i o : Nat) (A B : Prop) : zgr (.one (.eo e g z i o)) A B = A := by simp [zgr, isEo]
theorem zyi (t : TypeId) (parts : Array (Nat × Operand)) : exo P ops (⟨d, .build t parts, ty, ps, af, none⟩ :: os) ks Q σ = thn (st P ⟨d, .build t parts, ty, ps, af, none⟩ σ) (exo P ops os ks Q) := rfl
theorem znm (f : Fn) (x y : Array Operand) : exo P ops (⟨d, .makeFunc f x y, ty, ps, af, none⟩ :: os) ks Q σ = thn (st P ⟨d, .makeFunc f x y, ty, ps, af, none⟩ σ) (exo P ops os ks Q) := rfl
theorem qe8 (asx : Array Operand) (ts : Array TypeId) : exo P ops (⟨d, .call ⟨.builtin .max, asx, ts⟩, ty, ps, af, none⟩ :: os) ks Q σ = thn (st P ⟨d, .call ⟨.builtin .max, asx, ts⟩, ty, ps, af, none⟩ σ) (exo P ops os ks Q) := rfl
def owK (v : V) (A B : Prop) : Prop := if isOw v = true then A else B
theorem owK_ow (e g : Nat) (A B : Prop) : owK (.one (.ow e g)) A B = A := by simp [owK, isOw]
theorem owK_t (t : T) (A B : Prop) : owK (.one (.t t)) A B = B := by simp [owK, isOw]
theorem zun (t : TypeId) (x : Operand) (l h m : Option Operand) : exo P ops (⟨d, .slice t x l h m, ty, ps, af, none⟩ :: os) ks Q σ = owK (σ.get P t x) (ztq P ops ⟨d, .slice t x l h m, ty, ps, af, none⟩ os ks Q σ) (thn (st P ⟨d, .slice t x l h m, ty, ps, af, none⟩ σ) (exo P ops os ks Q)) := by
 unfold owK
 split
 ·rename_i h
  unfold exo
  rw [zbj]
  unfold exG
  simp only
  unfold zbx
  rw [if_pos (by unfold zkk ztt; simp only [h, Bool.or_true])]
  rfl
 ·rename_i h
  unfold exo
  rw [zbj]
  unfold exG
  simp only
  unfold zbx
  rw [if_neg (by unfold zkk ztt; simpa [zsy] using h)]
  rfl
def gd (P : Program) (ops : Array Oper) (os : List Oper) (ks : List Fr) (Q : Exit -> St -> Prop) (σ : St) (o : Oper) (c : Nat) (v : V) (want : Bool) : Prop :=
 match v with
 | .one (.t (.bool b)) => (b = want -> exo P ops ({ o with guard := none } :: os) ks Q (σ.put (some c) (.one (.t (.bool want))))) /\ (b = !want -> exo P ops os ks Q ((σ.put (some c) (.one (.t (.bool !want)))).put o.dst (.tup [])))
 | .tup _ => exo P ops os ks Q (σ.put o.dst (.tup []))
 | _ => False
theorem zig (o : Oper) (c : Nat) (b want : Bool) : gd P ops os ks Q σ o c (.one (.t (.bool b))) want = ((b = want -> exo P ops ({ o with guard := none } :: os) ks Q (σ.put (some c) (.one (.t (.bool want))))) /\ (b = !want -> exo P ops os ks Q ((σ.put (some c) (.one (.t (.bool !want)))).put o.dst (.tup [])))) := rfl
theorem gd_tup (o : Oper) (c : Nat) (xs : List (Bool × List C)) (want : Bool) : gd P ops os ks Q σ o c (.tup xs) want = exo P ops os ks Q (σ.put o.dst (.tup [])) := rfl
theorem gd_tt (o : Oper) (c : Nat) : gd P ops os ks Q σ o c (.one (.t (.bool true))) true = exo P ops ({ o with guard := none } :: os) ks Q (σ.put (some c) (.one (.t (.bool true)))) := by
 rw [zig]; simp
theorem gd_ff (o : Oper) (c : Nat) : gd P ops os ks Q σ o c (.one (.t (.bool false))) false = exo P ops ({ o with guard := none } :: os) ks Q (σ.put (some c) (.one (.t (.bool false)))) := by
 rw [zig]; simp
theorem gd_tf (o : Oper) (c : Nat) : gd P ops os ks Q σ o c (.one (.t (.bool true))) false = exo P ops os ks Q ((σ.put (some c) (.one (.t (.bool true)))).put o.dst (.tup [])) := by
 rw [zig]; simp
theorem gd_ft (o : Oper) (c : Nat) : gd P ops os ks Q σ o c (.one (.t (.bool false))) true = exo P ops os ks Q ((σ.put (some c) (.one (.t (.bool false)))).put o.dst (.tup [])) := by
 rw [zig]; simp
theorem zz9 (c x y : Operand) : exo P ops (⟨d, .pick c x y, ty, ps, af, none⟩ :: os) ks Q σ = thn (st P ⟨d, .pick c x y, ty, ps, af, none⟩ σ) (exo P ops os ks Q) := rfl
theorem zxw (op : Op) (j : Nat) (want : Bool) : exo P ops (⟨d, op, ty, ps, af, some (j, want)⟩ :: os) ks Q σ = zam ((ops[j]?).bind (·.dst)) fun c => gd P ops os ks Q σ ⟨d, op, ty, ps, af, none⟩ c (σ.sl c) want := by
  unfold exo zbj exG
  simp only
  unfold zam
  split
  · rename_i c hc
    simp only [hc]
    unfold gd
    split
    · rename_i b hb; first | (rw [hb]; rfl) | rfl
    · rename_i b hb; first | (rw [hb]; rfl) | rfl
    · rename_i hb hb2
      first
        | rfl
        | (split
           · exact absurd ‹_› (hb _)
           · exact absurd ‹_› (hb2 _)
           · rfl)
  · rename_i hc; simp only [hc]
end
theorem min64 : IntKind.min .i64 = -9223372036854775808 := by decide
theorem max64 : IntKind.max .i64 = 9223372036854775807 := by decide
theorem minu8 : IntKind.min .u8 = 0 := by decide
theorem maxu8 : IntKind.max .u8 = 255 := by decide
theorem minu64 : IntKind.min .u64 = 0 := by decide
theorem maxu64 : IntKind.max .u64 = 18446744073709551615 := by decide
theorem zok (n : Nat) : (0 <= (n : Int)) = True := by simp
theorem nat_lt (m n : Nat) : ((m : Int) < (n : Int)) = (m < n) := by simp
theorem nat_le (m n : Nat) : ((m : Int) <= (n : Int)) = (m <= n) := by simp
theorem zee {p : Prop} : (True -> p) = p := by simp
theorem zdh {p : Prop} : (False -> p) = True := by simp
theorem zug : (true = true) = True := by simp
theorem qgv : (false = false) = True := by simp
theorem qe6 : (true = false) = False := by simp
theorem qgc : (false = true) = False := by simp
theorem qgh {α : Type} (a : α) : (some a ≠ none) = True := by simp
theorem qcw {α : Type} (a : α) : (some a = none) = False := by simp
attribute [go_sem] zoi zgv min64 max64 minu8 maxu8 minu64 maxu64 zok nat_lt nat_le zee zdh zug qgv qe6 qgc qgh qcw Option.isSome_some Option.isNone_none List.length_map List.length_cons List.length_nil List.map_cons List.map_nil List.map_map List.zip_cons_cons List.zip_nil_left List.replicate List.append_nil List.nil_append List.cons_append true_and and_true and_self if_true if_false Option.map_some Option.map_none Option.bind_some Option.bind_none List.getElem?_cons_zero List.getElem?_cons_succ Int.toNat_natCast decide_true decide_false Bool.not_true Bool.not_false List.all_cons List.all_nil Bool.and_true Bool.true_and List.drop_zero List.take_zero List.drop_succ_cons List.take_succ_cons List.getElem?_map List.foldr List.not_mem_nil not_false_iff not_true List.mem_cons or_false false_or Function.comp
theorem zpe (l : List Oper) (i : Nat) : l.toArray[i]? = l[i]? := by simp
attribute [go_sem] owK_ow owK_t zx1 zue zpe zwg zzt
attribute [go_sem ↓] zz9 zxw zob zku zyl znz zo6 zt8 qf9 zvh zyi znm qe8 zun
section
variable (σ : St)
theorem qgy : VDs σ [] [] = True := by simp [VDs]
theorem zp7 (v : V) (vs : List V) (d : D) (ds : List D) : VDs σ (v :: vs) (d :: ds) = (VD σ v d /\ VDs σ vs ds) := by
 refine propext ⟨fun ⟨d', ds', e, h1, h2⟩ => ?_, fun h => ⟨d, ds, rfl, h.1, h.2⟩⟩
 cases e; exact ⟨h1, h2⟩
theorem qet (c : C) (t : T) : VD σ (.one c) (.one t) = CT σ c t := rfl
theorem VD_agg (cs : List C) (ts : List T) : VD σ (.agg cs) (.agg ts) = CTs σ cs ts := rfl
theorem qgr : CTs σ [] [] = True := by simp [CTs]
theorem qa3 (c : C) (cs : List C) (t : T) (ts : List T) : CTs σ (c :: cs) (t :: ts) = (CT σ c t /\ CTs σ cs ts) := by
 refine propext ⟨fun ⟨d', ds', e, h1, h2⟩ => ?_, fun h => ⟨t, ts, rfl, h.1, h.2⟩⟩
 cases e; exact ⟨h1, h2⟩
theorem CT_t (x y : T) : CT σ (.t x) y = (x = y) := by cases y <;> rfl
theorem qdz (e g sz : Nat) (rows : List (List T)) : CT0 σ (.ow e g) (.sl sz rows) = zam (σ.ev e) fun x => x.sz = sz /\ x.rows = rows /\ x.gen = g := by
 refine propext ⟨fun ⟨d, o, h⟩ => by rw [h]; exact ⟨rfl, rfl, rfl⟩, fun h => ?_⟩
 obtain ⟨⟨d, z, r, n, o⟩, h1, rfl, rfl, rfl⟩ := zal h
 exact ⟨d, o, h1⟩
theorem CT_ow (e g sz : Nat) (rows : List (List T)) : CT σ (.ow e g) (.sl sz rows) = zam (σ.ev e) fun x => x.sz = sz /\ x.rows = rows /\ x.gen = g := qdz σ e g sz rows
theorem qgf (b : Nat) (ts : List T) : CTb σ b (.ptr ts) = zam (σ.bx b) fun cs => zlt σ cs ts := by
 refine propext ⟨fun ⟨cs, ts', h1, h2, h3⟩ => by cases h2; rw [h1]; exact h3, fun h => ?_⟩
 obtain ⟨cs, h1, h2⟩ := zal h
 exact ⟨cs, ts, h1, rfl, h2⟩
theorem CT_fn (f g : FuncId) (caps : List Nat) (ts : List T) : CT σ (.fn f caps) (.fn g ts) = (f = g /\ CTf σ caps ts) := rfl
theorem qe9 : CTf σ [] [] = True := by simp [CTf]
theorem qat (b : Nat) (bs : List Nat) (t : T) (ts : List T) : CTf σ (b :: bs) (t :: ts) = (CTb σ b t /\ CTf σ bs ts) := by
 refine propext ⟨fun ⟨d', ds', e, h1, h2⟩ => ?_, fun h => ⟨t, ts, rfl, h.1, h.2⟩⟩
 cases e; exact ⟨h1, h2⟩
theorem qau : zlt σ [] [] = True := by simp [zlt]
theorem zt9 (c : C) (cs : List C) (t : T) (ts : List T) : zlt σ (c :: cs) (t :: ts) = (CT0 σ c t /\ zlt σ cs ts) := by
 refine propext ⟨fun ⟨d', ds', e, h1, h2⟩ => ?_, fun h => ⟨t, ts, rfl, h.1, h.2⟩⟩
 cases e; exact ⟨h1, h2⟩
theorem CT_rn (x y : T) : CT σ (.rn x) y = (x = y) := by cases y <;> rfl
theorem CT0_rn (x y : T) : CT0 σ (.rn x) y = (x = y) := rfl
theorem CT0_t (x y : T) : CT0 σ (.t x) y = (x = y) := rfl
theorem qag : zm7 σ [] [] = True := by simp [zm7]
theorem zvl (v : V) (vs : List V) (d : D) (ds : List D) : zm7 σ (v :: vs) (d :: ds) = (VD1 σ v d /\ zm7 σ vs ds) := by
 refine propext ⟨fun ⟨d', ds', e, h1, h2⟩ => ?_, fun h => ⟨d, ds, rfl, h.1, h.2⟩⟩
 cases e; exact ⟨h1, h2⟩
theorem qhi (c : C) (t : T) : VD1 σ (.one c) (.one t) = CT1 σ c t := rfl
theorem qhc (cs : List C) (ts : List T) : VD1 σ (.agg cs) (.agg ts) = zmj σ cs ts := rfl
theorem qdl : zmj σ [] [] = True := by simp [zmj]
theorem zxp (c : C) (cs : List C) (t : T) (ts : List T) : zmj σ (c :: cs) (t :: ts) = (CT1 σ c t /\ zmj σ cs ts) := by
 refine propext ⟨fun ⟨d', ds', e, h1, h2⟩ => ?_, fun h => ⟨t, ts, rfl, h.1, h.2⟩⟩
 cases e; exact ⟨h1, h2⟩
theorem CT1_t (x y : T) : CT1 σ (.t x) y = (x = y) := rfl
end
attribute [go_sem] qgy zp7 qet VD_agg qgr qa3 CT_rn CT0_rn CT_t qdz CT_ow qgf CT_fn qe9 qat qau zt9 CT0_t qag zvl qhi qhc qdl zxp CT1_t
attribute [go_sem] zig gd_tup znw zsg zus St.gets zat zfc qbk owE zox zla owC za1 zth cmpV zk6 St.callF St.callR zci zg8 zd5 gV gE rd D.toV PF zoe zbh zsh zvq ownK own1 RV V.cells V.isTup C.good qcb zdk setR zdy T.flat
theorem exo_cg {P : Program} {ops : Array Oper} {os : List Oper} {ks : List Fr} {Q : Exit -> St -> Prop} {σ σ' : St} (h : σ = σ') : exo P ops os ks Q σ = exo P ops os ks Q σ' := h ▸ rfl
theorem qhg {P : Program} {ops : Array Oper} {o : Oper} {os : List Oper} {ks : List Fr} {Q : Exit -> St -> Prop} {σ σ' : St} (h : σ = σ') : ztq P ops o os ks Q σ = ztq P ops o os ks Q σ' := h ▸ rfl
theorem ex_cg {P : Program} {c : Code} {ks : List Fr} {Q : Exit -> St -> Prop} {σ σ' : St} (h : σ = σ') : ex P c ks Q σ = ex P c ks Q σ' := h ▸ rfl
theorem thn_cg {s s' : qd8} {K : St -> Prop} (h : s = s') : thn s K = thn s' K := h ▸ rfl
theorem gd_cg {P : Program} {ops : Array Oper} {os : List Oper} {ks : List Fr} {Q : Exit -> St -> Prop} {σ : St} {o : Oper} {c : Nat} {v v' : V} {want : Bool} (h : v = v') : gd P ops os ks Q σ o c v want = gd P ops os ks Q σ o c v' want := h ▸ rfl
theorem qbn (a b : Prop) : tst (.one (.t (.bool true))) a b = a := by simp [tst]
theorem zuy (a b : Prop) : tst (.one (.t (.bool false))) a b = b := by simp [tst]
attribute [go_sem high] qbn zuy gd_tt gd_ff gd_tf gd_ft
theorem zuz {α : Type} {x x' : Option α} {K : α -> Prop} (h : x = x') : zam x K = zam x' K := h ▸ rfl
attribute [congr] exo_cg qhg ex_cg thn_cg gd_cg zuz
end Go.Proofs.YtaaniggpnljckaaGreat
namespace Go.Proofs.YtaaniggpnljckaaGreat
set_option linter.unusedSimpArgs false
set_option linter.unusedVariables false
set_option linter.unusedSectionVars false
set_option maxRecDepth 4000
open Go.RowKit
variable {P : Program}
mutual
def wfT : T -> Prop
 | .int k n => k.min <= n /\ n <= k.max
 | .bool _ => True
 | .str s => s.length <= zds
 | .sl _ rows => rows.length <= zds /\ zed rows
 | .ptr cells => zsm cells
 | .fn _ caps => zsm caps
 | .mp _ rows => zed rows
 | .pin _ t => wfT t
 | .vs _ _ _ => True
 | .nmp => True
 | .cl _ _ => True
 | .mq _ rows => zed rows
def zed : List (List T) -> Prop
 | [] => True
 | r :: rows => zsm r /\ zed rows
def zsm : List T -> Prop
 | [] => True
 | t :: ts => wfT t /\ zsm ts
end
mutual
theorem zai.wf {w : World} {A : Nat -> Prop} : ∀ (t : T) (v : Value), zai w A t v -> wfT t
 | .int _ _, _, h => by unfold zai at h; unfold wfT; exact h.2
 | .bool _, _, _ => by unfold wfT; trivial
 | .str _, _, h => by unfold zai at h; unfold wfT; exact h.2
 | .sl sz rows, v, h => by
  unfold zai at h
  unfold wfT
  obtain ⟨ao, cap, h1, h2, h3, h4⟩ := h
  refine ⟨Nat.le_trans h2 h3, ?_⟩
  rcases h4 with h4 | ⟨b, o, h4, h5, h6⟩
  ·subst h4; unfold zed; trivial
  ·exact zak.wf b o sz rows h6
 | .ptr cells, v, h => by
  unfold zai at h
  unfold wfT
  obtain ⟨b, o, h1, h2, h3⟩ := h
  exact zaz.wf b o cells h3
 | .fn f caps, v, h => by
  unfold zai at h
  unfold wfT
  obtain ⟨vs, h1, h2⟩ := h
  exact zad.wf caps vs h2
 | .mp ag rows, v, h => by
  unfold zai at h
  unfold wfT
  obtain ⟨b, es, clk, h1, h2, h3, h4⟩ := h
  exact zbn.wf ag rows _ h4
 | .pin u t, v, h => by
  unfold zai at h
  unfold wfT
  exact zai.wf t v h.2
 | .vs _ _ _, _, _ => by unfold wfT; trivial
 | .nmp, _, _ => by unfold wfT; trivial
 | .cl _ _, _, _ => by unfold wfT; trivial
 | .mq ag rows, v, h => by
  unfold zai at h
  unfold wfT
  obtain ⟨b, es, clk, h1, h2, h3, h4, _⟩ := h
  exact zbn.wf ag rows _ h4
theorem zbn.wf {w : World} {A : Nat -> Prop} (ag : Bool) : ∀ (rows : List (List T)) (es : List MapEntry), zbn w A ag rows es -> zed rows
 | [], _, _ => by unfold zed; trivial
 | r :: rest, _, h => by
  unfold zbn at h
  unfold zed
  obtain ⟨e, es', us, h1, h2, h3, h4⟩ := h
  exact ⟨zad.wf r _ h3, zbn.wf ag rest es' h4⟩
theorem zak.wf {w : World} {A : Nat -> Prop} (b : Nat) : ∀ (o sz : Nat) (rows : List (List T)), zak w A b o sz rows -> zed rows
 | _, _, [], _ => by unfold zed; trivial
 | o, sz, r :: rest, h => by
  unfold zak at h
  unfold zed
  exact ⟨zaz.wf b o r h.2.1, zak.wf b (o + sz) sz rest h.2.2⟩
theorem zaz.wf {w : World} {A : Nat -> Prop} (b : Nat) : ∀ (o : Nat) (cs : List T), zaz w A b o cs -> zsm cs
 | _, [], _ => by unfold zsm; trivial
 | o, c :: cs, h => by
  unfold zaz at h
  unfold zsm
  obtain ⟨⟨v, _, h2⟩, h3⟩ := h
  exact ⟨zai.wf c v h2, zaz.wf b (o + 1) cs h3⟩
theorem zad.wf {w : World} {A : Nat -> Prop} : ∀ (cs : List T) (vs : List Value), zad w A cs vs -> zsm cs
 | [], _, _ => by unfold zsm; trivial
 | c :: cs, vs, h => by
  unfold zad at h
  unfold zsm
  obtain ⟨v, vs', h1, h2, h3⟩ := h
  exact ⟨zai.wf c v h2, zad.wf cs vs' h3⟩
end
def zn6 : List D -> Prop
 | [] => True
 | .one t :: ds => wfT t /\ zn6 ds
 | .agg ts :: ds => zsm ts /\ zn6 ds
theorem zas.wf {w : World} {A : Nat -> Prop} : ∀ {ds : List D} {vs : List Value} {fp tp : List Nat}, zas w A (rd ds) vs fp tp -> zn6 ds
 | [], _, _, _, _ => trivial
 | .one t :: ds, _, _, _, h => by obtain ⟨v, vs', _, h1, h2⟩ := h; exact ⟨zai.wf t v h1, zas.wf h2⟩
 | .agg ts :: ds, _, _, _, h => by obtain ⟨v, vs', _, ⟨a, _, h1⟩, h2⟩ := h; exact ⟨zad.wf ts a h1, zas.wf h2⟩
theorem zg6 {f : FuncId} {args res : List D} (h : zn6 args -> FC P f args res) (hc : za8 P f) : FC P f args res :=
 ⟨hc, fun w vs fp tp hv => (h hv.wf).2 w vs fp tp hv⟩
def ze0 : List (Nat × V) -> Nat -> V
 | [], _ => .one .any
 | (j, v) :: l, i => if i = j then v else ze0 l i
def tbl {α : Type} : List (Nat × α) -> Nat -> Option α
 | [], _ => none
 | (j, v) :: l, i => if i = j then some v else tbl l i
def hd (l : List (Nat × V)) (bl : List (Nat × List C)) (el : List (Nat × Ev)) : St := ⟨ze0 l, tbl bl, tbl el⟩
theorem hd_sl (l : List (Nat × V)) (bl : List (Nat × List C)) (el : List (Nat × Ev)) : (hd l bl el).sl = ze0 l := rfl
theorem hd_bx (l : List (Nat × V)) (bl : List (Nat × List C)) (el : List (Nat × Ev)) : (hd l bl el).bx = tbl bl := rfl
theorem hd_ev (l : List (Nat × V)) (bl : List (Nat × List C)) (el : List (Nat × Ev)) : (hd l bl el).ev = tbl el := rfl
theorem qcq (i : Nat) : ze0 [] i = .one .any := rfl
theorem zw0 (j : Nat) (v : V) (l : List (Nat × V)) (i : Nat) : ze0 ((j, v) :: l) i = if i = j then v else ze0 l i := rfl
theorem qhj {α : Type} (i : Nat) : tbl ([] : List (Nat × α)) i = none := rfl
theorem qan {α : Type} (j : Nat) (v : α) (l : List (Nat × α)) (i : Nat) : tbl ((j, v) :: l) i = if i = j then some v else tbl l i := rfl
def wkL (σ σ' : St) : List (Nat × V) -> Prop
 | [] => True
 | (i, v) :: l => VW σ σ' (σ.sl i) v /\ wkL σ σ' l
def wkB (σ σ' : St) : List (Nat × List C) -> Prop
 | [] => True
 | (b, cs) :: l => zam (σ.bx b) (fun cs0 => CWs σ σ' cs0 cs) /\ wkB σ σ' l
def wk1 (x : Ev) : Option Ev -> Prop
 | some y => x = { y with gen := x.gen }
 | none => x.rows = [] /\ x.on = true
def wkE (σ : St) : List (Nat × Ev) -> Prop
 | [] => True
 | (e, x) :: l => wk1 x (σ.ev e) /\ wkE σ l
theorem zab {σ : St} {l : List (Nat × V)} {bl : List (Nat × List C)} {el : List (Nat × Ev)} (h : wkL σ (hd l bl el) l /\ wkB σ (hd l bl el) bl /\ wkE σ el) : Wk σ (hd l bl el) := by
 obtain ⟨h1, h2, h3⟩ := h
 refine Weak.wk ⟨fun i => ?_, fun b cs hb => ?_, fun e x he => ?_⟩
 ·show VW σ (hd l bl el) (σ.sl i) (ze0 l i)
  clear h2 h3
  generalize hd l bl el = σ' at h1
  induction l with
  | nil => unfold ze0 VW; cases σ.sl i <;> trivial
  | cons p l ih =>
   obtain ⟨j, v⟩ := p
   unfold ze0
   by_cases hij : i = j
   ·subst hij
    rw [if_pos rfl]
    exact h1.1
   ·rw [if_neg hij]
    exact ih h1.2
 ·have hb' : tbl bl b = some cs := hb
  clear hb h1 h3
  generalize hd l bl el = σ' at h2
  revert h2
  induction bl with
  | nil => cases hb'
  | cons p bl ih =>
   obtain ⟨j, v⟩ := p
   intro h2
   unfold tbl at hb'
   by_cases hij : b = j
   ·subst hij
    rw [if_pos rfl] at hb'
    cases hb'
    have h := h2.1
    unfold zam at h
    split at h
    ·exact ⟨_, ‹_›, h⟩
    ·exact h.elim
   ·rw [if_neg hij] at hb'
    exact ih hb' h2.2
 ·have he' : tbl el e = some x := he
  clear he h1 h2
  induction el with
  | nil => cases he'
  | cons p el ih =>
   obtain ⟨j, v⟩ := p
   unfold tbl at he'
   by_cases hij : e = j
   ·subst hij
    rw [if_pos rfl] at he'
    cases he'
    have h := h3.1
    cases hx : σ.ev e with
    | none => rw [hx] at h; exact Or.inr ⟨rfl, h⟩
    | some y => rw [hx] at h; exact Or.inl ⟨y, rfl, h⟩
   ·rw [if_neg hij] at he'
    exact ih h3.2 he'
def vI (n : Int) : V := .one (.t (.int .i64 n))
def vB (b : Bool) : V := .one (.t (.bool b))
def vT (t : T) : V := .one (.t t)
theorem zbd {n : Int} (h1 : -9223372036854775808 <= n) (h2 : n <= 9223372036854775807) : IntKind.i64.wrap n = n := by
 rw [IntKind.wrap_i64]; omega
theorem zyb {k : Nat} (h : k < zds) : IntKind.i64.wrap ((k : Int) + 1) = ((k + 1 : Nat) : Int) := by
 unfold zds at h; rw [zbd (by omega) (by omega)]; omega
theorem qcn (x y : Ev) : wk1 x (some y) = (x = { y with gen := x.gen }) := rfl
theorem qdd (x : Ev) : wk1 x none = (x.rows = [] /\ x.on = true) := rfl
attribute [go_sem] qcn qdd hd_sl hd_bx hd_ev qcq zw0 qhj qan wkL wkB wkE VW CW CWs zlh vI vB vT zte
end Go.Proofs.YtaaniggpnljckaaGreat
namespace Go.Proofs.YtaaniggpnljckaaGreat
set_option linter.unusedSimpArgs false
set_option linter.unusedVariables false
set_option linter.unusedSectionVars false
set_option maxRecDepth 4000
open Go.RowKit
variable {P : Program}
def V.map (f : C -> C) : V -> V
 | .one c => .one (f c)
 | .agg cs => .agg (cs.map f)
 | .tup xs => .tup (xs.map fun x => (x.1, x.2.map f))
theorem CRs.map {σ σ' : St} {g g' : Gh} {w w' : World} {f : C -> C} (hf : ∀ c v, CR σ g w c v -> CR σ' g' w' (f c) v) : ∀ {cs : List C} {vs : List Value}, CRs σ g w cs vs -> CRs σ' g' w' (cs.map f) vs
 | [], vs, h => h
 | c :: cs, vs, h => by obtain ⟨v, vs', rfl, h1, h2⟩ := h; exact ⟨v, vs', rfl, hf c v h1, CRs.map hf h2⟩
theorem CRt.map {σ σ' : St} {g g' : Gh} {w w' : World} {f : C -> C} (hf : ∀ c v, CR σ g w c v -> CR σ' g' w' (f c) v) : ∀ {xs : List (Bool × List C)} {vs : List Value}, CRt σ g w xs vs -> CRt σ' g' w' (xs.map fun x => (x.1, x.2.map f)) vs
 | [], vs, h => h
 | x :: xs, vs, h => by
  obtain ⟨v, vs', rfl, h1, h2⟩ := h
  refine ⟨v, vs', rfl, ?_, CRt.map hf h2⟩
  unfold CRx at h1 ⊢
  simp only
  split at h1
  ·rw [if_pos ‹_›]; obtain ⟨u, u1, u2⟩ := h1; exact ⟨u, u1, CRs.map hf u2⟩
  ·rw [if_neg ‹_›]; obtain ⟨c, c1, c2⟩ := h1; exact ⟨f c, by rw [c1]; rfl, hf c v c2⟩
theorem VR.map {σ σ' : St} {g g' : Gh} {w w' : World} {f : C -> C} (hf : ∀ c v, CR σ g w c v -> CR σ' g' w' (f c) v) {x : V} {v : Value} (h : VR σ g w x v) : VR σ' g' w' (x.map f) v := by
 cases x with
 | one c => exact hf c v h
 | agg cs => obtain ⟨u, u1, u2⟩ := h; exact ⟨u, u1, CRs.map hf u2⟩
 | tup xs => obtain ⟨u, u1, u2⟩ := h; exact ⟨u, u1, CRt.map hf u2⟩
theorem zqb (w : World) (t ty e : TypeId) (i : TypeInfo) (ht : P.underlying t = some (.slice e)) (hi : P.info? e = some i) (cty : TypeId)
  (g sLen sCap : Nat) (cur : Array Value) (hg : w.heap[g]? = some (.cells cur cty (0, 0)))
  (a : Addr) (m c : Nat) (news : List Value) (hl : news.length = m * i.size) (hnews : ∀ j u, news[j]? = some u -> w.cell? (a.add j) = some u) (h1 : ∀ u ∈ news, u.oneCell' = true)
  (hroom : sLen + m <= sCap) (hfit : sLen * i.size + news.length <= cur.size) :
  (Builtin.append_ #[t, t] ty #[.slice (some ⟨g, 0, none⟩) sLen sCap, .slice (some a) m c]).run P w =
   .ok (.slice (some ⟨g, 0, none⟩) (sLen + m) sCap) (w.setRow g (cur.toList.take (sLen * i.size) ++ news ++ cur.toList.drop (sLen * i.size + news.length)).toArray) := by
 have hf := run_firstCells_some (P := P) w i.size m a m c news hl hnews
 have hst := run_storeCells_at P g (sLen * i.size) cty news 0 cur w hg (by simpa using hfit) h1
 simp only [Nat.add_zero] at hst
 simp [Builtin.append_, run_underlying ht, sizeOf, typeInfo, hi, Builtin.lenOf, hroom, hf, Addr.add_lit, hst]
structure Apd (w w' : World) (sz len : Nat) (old : Option Nat) (vs : List Value) (v' : Value) : Prop where
 os : w'.os = w.os
 tape : w'.tape = w.tape
 output : w'.output = w.output
 size : w.heap.size <= w'.heap.size
 res : (v' = .slice none 0 0 /\ vs = [] /\ len = 0 /\ w' = w) \/ ∃ b cap cells ty, v' = .slice (some ⟨b, 0, none⟩) len cap /\ len <= cap /\ cap <= zds /\ w'.heap[b]? = some (.cells cells ty (0, 0)) /\ cells.size = cap * sz /\ cells.toList.take (len * sz) = vs ∧
  (some b = old \/ w.heap.size <= b) /\ ∀ k, k < w.heap.size -> k ≠ b -> w'.heap[k]? = w.heap[k]?
theorem zs7 (w : World) (t ty e : TypeId) (n bytes : Nat) (ht : P.underlying t = some (.slice e)) (hn : zbc P e = some n) (hby : zcu P e = some bytes) (z : List C) (hz : zcs P e = some z) (hzl : z.length = n)
  (v : Value) (len : Nat) (old : Option Nat) (xs : List Value)
  (hs : (v = .slice none 0 0 /\ len = 0 /\ xs = []) \/ ∃ b cap cells cty, v = .slice (some ⟨b, 0, none⟩) len cap /\ len <= cap /\ cap <= zds /\ w.heap[b]? = some (.cells cells cty (0, 0)) /\ cells.size = cap * n /\ cells.toList.take (len * n) = xs /\ old = some b)
  (ao : Option Addr) (m c : Nat) (news : List Value) (hl : news.length = m * n) (hsrc : m = 0 \/ ∃ a, ao = some a /\ ∀ j u, news[j]? = some u -> w.cell? (a.add j) = some u) (h1 : ∀ u ∈ news, u.oneCell' = true)
  (hb1 : len + m <= 4294967296) (hb2 : bytes <= 16384) :
  ∃ v' w', (Builtin.append_ #[t, t] ty #[v, .slice ao m c]).run P w = .ok v' w' /\ Apd w w' n (len + m) old (xs ++ news) v' := by
 obtain ⟨i, zv, hi, hzv, hzc⟩ := zf7 hz
 have hin : i.size = n := by unfold zbc at hn; rw [hi] at hn; simpa using hn
 have hib : i.bytes = bytes := by unfold zcu at hby; rw [hi] at hby; simpa using hby
 have hzs : zv.cells.size = n := by
  have := (hzc ⟨fun _ => .one .any, fun _ => none, fun _ => none⟩ ⟨fun _ => 0, fun _ _ => undef, fun _ => [], fun _ => True, RP.of fun _ => True⟩ w).len
  simp at this; omega
 have hbound : (len + m) * i.bytes <= 140737488355328 := by
  rw [hib]
  calc (len + m) * bytes <= 4294967296 * 16384 := Nat.mul_le_mul hb1 hb2
   _ <= 140737488355328 := by decide
 have grown : ∀ (oldc : Nat) (xs : List Value), xs.length = len * n -> oldc < len + m -> Apd w (w.drew.alloc (.cells (xs.toArray ++ news.toArray ++ Builtin.zeroCells zv.cells (grownCap w (len + m) oldc e - (len + m))) e)) n (len + m) old (xs ++ news)
   (.slice (some ⟨w.heap.size, 0, none⟩) (len + m) (grownCap w (len + m) oldc e)) := by
  intro oldc xs hxl ho
  have hge := grownCap_ge w (len + m) oldc e
  have hcm : grownCap w (len + m) oldc e <= maxLen := grownCap_le_maxLen w (len + m) oldc e (by simp only [maxLen]; omega)
  refine ⟨rfl, rfl, rfl, by simp, Or.inr ⟨w.heap.size, _, _, e, rfl, hge, by simpa [maxLen, zds] using hcm, heap_alloc_new w.drew _, ?_, ?_, Or.inr (Nat.le_refl _), fun k hk _ => Below.heap_alloc w.drew _ k hk⟩⟩
  ·simp only [Array.size_append, List.size_toArray, size_zeroCells, hzs, hxl, hl, <- Nat.add_mul]
   congr 1
   omega
  ·simp only [Array.toList_append, List.append_assoc]
   rw [<- List.append_assoc, show (len + m) * n = (xs ++ news).length by rw [List.length_append, hxl, hl, Nat.add_mul]]
   exact List.take_left
 subst hin
 by_cases hm : m = 0
 ·subst hm
  have hn0 : news = [] := List.eq_nil_of_length_eq_zero (by simpa using hl)
  subst hn0
  have hfc : (Builtin.firstCells i.size 0 (.slice ao 0 c)).run P w = .ok #[] w := by
   cases ao <;> simp [Builtin.firstCells, loadCells, loadCellsFrom]
  rcases hs with ⟨rfl, rfl, rfl⟩ | ⟨b, cap, cells, cty, rfl, k1, k2, k3, k4, k5, k6⟩
  ·refine ⟨.slice none 0 0, w, ?_, rfl, rfl, rfl, Nat.le_refl _, Or.inl ⟨rfl, rfl, rfl, rfl⟩⟩
   simp [Builtin.append_, run_underlying ht, sizeOf, typeInfo, hi, Builtin.lenOf, hfc]
  ·refine ⟨.slice (some ⟨b, 0, none⟩) len cap, w, ?_, rfl, rfl, rfl, Nat.le_refl _, Or.inr ⟨b, cap, cells, cty, by simp, by simpa using k1, k2, k3, k4, by simpa using k5, Or.inl k6.symm, fun _ _ _ => rfl⟩⟩
   simp [Builtin.append_, run_underlying ht, sizeOf, typeInfo, hi, Builtin.lenOf, k1, hfc, storeCells]
 ·obtain ⟨a, rfl, hnews⟩ := hsrc.resolve_left hm
  rcases hs with ⟨rfl, rfl, rfl⟩ | ⟨b, cap, cells, cty, rfl, k1, k2, k3, k4, k5, k6⟩
  ·have hr := run_append_nil (P := P) w t ty e i zv ht hi hzv a m c news hl hnews (by omega) (by omega) (by simp only [Nat.zero_add] at hbound; omega)
   have := grown 0 [] (by simp) (by omega)
   simp only [Nat.zero_add, List.nil_append, Array.empty_append] at this ⊢
   exact ⟨_, _, hr, this⟩
  ·have hxl : xs.length = len * i.size := by
    rw [<- k5, List.length_take, Array.length_toList, k4]
    exact Nat.min_eq_left (Nat.mul_le_mul_right _ k1)
   by_cases hroom : len + m <= cap
   ·have hfit : len * i.size + news.length <= cells.size := by rw [hl, k4, <- Nat.add_mul]; exact Nat.mul_le_mul_right _ hroom
    refine ⟨_, _, zqb w t ty e i ht hi cty b len cap cells k3 a m c news hl hnews h1 hroom hfit, rfl, rfl, rfl, by simp, Or.inr ⟨b, cap, _, cty, rfl, hroom, k2, setRow_heap w b cells _ cty _ k3, ?_, ?_, Or.inl k6.symm, fun k _ hk => setRow_other w b k _ hk⟩⟩
    ·simp only [List.size_toArray, List.length_append, List.length_take, List.length_drop, Array.length_toList]
     omega
    ·rw [k5, show (len + m) * i.size = (xs ++ news).length by rw [List.length_append, hxl, hl, Nat.add_mul]]
     exact List.take_left
   ·have holds : ∀ j u, xs[j]? = some u -> w.cell? ((⟨b, 0, none⟩ : Addr).add j) = some u := fun j u hu => by
     rw [zdt, Nat.zero_add]
     rw [<- k5, List.getElem?_take] at hu
     split at hu
     ·simpa [World.cell?, k3] using hu
     ·cases hu
    have hr := run_append_grow (P := P) w t ty e i zv ht hi hzv ⟨b, 0, none⟩ len cap xs hxl holds a m c news hl hnews (by omega) (by omega) (growslice_fits (by omega) hbound)
    exact ⟨_, _, hr, grown cap xs hxl (by omega)⟩
end Go.Proofs.YtaaniggpnljckaaGreat
namespace Go.Proofs.YtaaniggpnljckaaGreat
set_option linter.unusedSimpArgs false
set_option linter.unusedVariables false
set_option linter.unusedSectionVars false
set_option maxRecDepth 4000
open Go.RowKit
variable {P : Program}
def lens (sz : Nat) (rows : List (List T)) : Prop := ∀ r ∈ rows, r.length = sz
theorem zf6 {sz : Nat} : ∀ {rows : List (List T)}, lens sz rows -> rows.flatten.length = rows.length * sz
 | [], _ => by simp
 | r :: rows, h => by
  have h1 := h r (by simp)
  have h2 := zf6 (rows := rows) fun x hx => h x (by simp [hx])
  simp [h1, h2, Nat.add_mul]; omega
theorem zaz.vals {w : World} {A : Nat -> Prop} {b : Nat} : ∀ {cs : List T} {o : Nat}, zaz w A b o cs -> ∃ vs, vs.length = cs.length /\ (∀ j u, vs[j]? = some u -> w.cell? ⟨b, o + j, none⟩ = some u) /\ zad w A cs vs
 | [], o, _ => ⟨[], rfl, by simp, by unfold zad; rfl⟩
 | c :: cs, o, h => by
  unfold zaz at h
  obtain ⟨⟨v, h1, h2⟩, h3⟩ := h
  obtain ⟨vs, k1, k2, k3⟩ := zaz.vals h3
  refine ⟨v :: vs, by simp [k1], fun j u hu => ?_, by unfold zad; exact ⟨v, vs, rfl, h2, k3⟩⟩
  cases j with
  | zero => simp only [List.getElem?_cons_zero, Option.some.injEq] at hu; subst hu; exact h1
  | succ j => have := k2 j u (by simpa using hu); rwa [show o + 1 + j = o + (j + 1) by omega] at this
theorem zad.append {w : World} {A : Nat -> Prop} : ∀ {c1 c2 : List T} {v1 v2 : List Value}, zad w A c1 v1 -> zad w A c2 v2 -> zad w A (c1 ++ c2) (v1 ++ v2)
 | [], _, v1, _, h, k => by unfold zad at h; subst h; exact k
 | c :: cs, _, _, _, h, k => by
  unfold zad at h
  obtain ⟨v, vs', rfl, h1, h2⟩ := h
  rw [List.cons_append, List.cons_append]
  unfold zad
  exact ⟨v, _, rfl, h1, zad.append h2 k⟩
theorem zak.vals {w : World} {A : Nat -> Prop} {b sz : Nat} : ∀ {rows : List (List T)} {o : Nat}, zak w A b o sz rows -> lens sz rows /\ ∃ vs, vs.length = rows.length * sz /\ (∀ j u, vs[j]? = some u -> w.cell? ⟨b, o + j, none⟩ = some u) /\ zad w A rows.flatten vs
 | [], o, _ => ⟨by simp [lens], [], by simp, by simp, by unfold zad; rfl⟩
 | r :: rows, o, h => by
  unfold zak at h
  obtain ⟨h1, h2, h3⟩ := h
  obtain ⟨l, vs, k1, k2, k3⟩ := zak.vals h3
  obtain ⟨us, j1, j2, j3⟩ := h2.vals
  refine ⟨fun x hx => ?_, us ++ vs, by simp [j1, h1, k1, Nat.add_mul]; omega, fun j u hu => ?_, by rw [List.flatten_cons]; exact j3.append k3⟩
  ·rcases List.mem_cons.1 hx with rfl | hx
   ·exact h1
   ·exact l x hx
  ·rw [List.getElem?_append] at hu
   split at hu
   ·exact j2 j u hu
   ·have := k2 _ u hu; rwa [j1, h1, show o + sz + (j - sz) = o + j by rename_i hh; rw [j1, h1] at hh; omega] at this
theorem zad.split {w : World} {A : Nat -> Prop} : ∀ {c1 c2 : List T} {vs : List Value}, zad w A (c1 ++ c2) vs -> ∃ v1 v2, vs = v1 ++ v2 /\ zad w A c1 v1 /\ zad w A c2 v2
 | [], _, vs, h => ⟨[], vs, rfl, by unfold zad; rfl, h⟩
 | c :: cs, _, vs, h => by
  rw [List.cons_append] at h
  unfold zad at h
  obtain ⟨v, vs', rfl, h1, h2⟩ := h
  obtain ⟨v1, v2, rfl, k1, k2⟩ := zad.split h2
  exact ⟨v :: v1, v2, rfl, by unfold zad; exact ⟨v, v1, rfl, h1, k1⟩, k2⟩
theorem zak.of_vals {w : World} {A : Nat -> Prop} {b sz : Nat} : ∀ {rows : List (List T)} {o : Nat} {vs : List Value}, lens sz rows -> zad w A rows.flatten vs -> (∀ j u, vs[j]? = some u -> w.cell? ⟨b, o + j, none⟩ = some u) -> zak w A b o sz rows
 | [], _, _, _, _, _ => by unfold zak; trivial
 | r :: rows, o, vs, l, h, hc => by
  rw [List.flatten_cons] at h
  obtain ⟨v1, v2, rfl, h1, h2⟩ := h.split
  have hl := l r (by simp)
  have hl1 := h1.len
  unfold zak
  refine ⟨hl, zaz.mk fun j c hj => ?_, zak.of_vals (vs := v2) (fun x hx => l x (by simp [hx])) h2 fun j u hu => ?_⟩
  ·obtain ⟨v, k1, k2⟩ := h1.at j c hj
   exact ⟨v, hc j v (by rw [List.getElem?_append_left (by have := List.getElem?_eq_some_iff.1 k1; exact this.1)]; exact k1), k2⟩
  ·have := hc (sz + j) u (by rw [List.getElem?_append_right (by omega)]; rwa [show sz + j - v1.length = j by omega])
   rwa [<- Nat.add_assoc] at this
theorem za4.vals {w : World} {cells : Array Value} : ∀ {cs : List T} {o : Nat} {fps : List Nat}, za4 w cells o cs fps -> ∃ vs, vs.length = cs.length /\ (∀ j u, vs[j]? = some u -> cells[o + j]? = some u) /\ zav w cs vs fps
 | [], o, fps, h => by unfold za4 at h; exact ⟨[], rfl, by simp, rfl, h⟩
 | c :: cs, o, fps, h => by
  unfold za4 at h
  obtain ⟨v, f1, f2, h1, rfl, h2, h3⟩ := h
  obtain ⟨vs, k1, k2, k3⟩ := za4.vals h3
  refine ⟨v :: vs, by simp [k1], fun j u hu => ?_, v, vs, f1, f2, rfl, rfl, h2, k3⟩
  cases j with
  | zero => simp only [List.getElem?_cons_zero, Option.some.injEq] at hu; subst hu; exact h1
  | succ j => have := k2 j u (by simpa using hu); rwa [show o + 1 + j = o + (j + 1) by omega] at this
theorem zag.vals {w : World} {cells : Array Value} {sz : Nat} : ∀ {rows : List (List T)} {o : Nat} {fps : List Nat}, zag w cells o sz rows fps -> lens sz rows /\ ∃ vs, vs.length = rows.length * sz /\ (∀ j u, vs[j]? = some u -> cells[o + j]? = some u) /\ zav w rows.flatten vs fps
 | [], o, fps, h => by unfold zag at h; exact ⟨by simp [lens], [], by simp, by simp, rfl, h⟩
 | r :: rows, o, fps, h => by
  unfold zag at h
  obtain ⟨h1, f1, f2, rfl, h2, h3⟩ := h
  obtain ⟨l, vs, k1, k2, k3⟩ := zag.vals h3
  obtain ⟨us, j1, j2, j3⟩ := h2.vals
  refine ⟨fun x hx => ?_, us ++ vs, by simp [j1, h1, k1, Nat.add_mul]; omega, fun j u hu => ?_, by rw [List.flatten_cons]; exact j3.append k3⟩
  ·rcases List.mem_cons.1 hx with rfl | hx
   ·exact h1
   ·exact l x hx
  ·rw [List.getElem?_append] at hu
   split at hu
   ·exact j2 j u hu
   ·have := k2 _ u hu; rwa [j1, h1, show o + sz + (j - sz) = o + j by rename_i hh; rw [j1, h1] at hh; omega] at this
theorem zav.split {w : World} : ∀ {c1 c2 : List T} {vs : List Value} {fps : List Nat}, zav w (c1 ++ c2) vs fps -> ∃ v1 v2 f1 f2, vs = v1 ++ v2 /\ fps = f1 ++ f2 /\ zav w c1 v1 f1 /\ zav w c2 v2 f2
 | [], _, vs, fps, h => ⟨[], vs, [], fps, rfl, rfl, ⟨rfl, rfl⟩, h⟩
 | c :: cs, _, vs, fps, h => by
  obtain ⟨v, vs', g1, g2, rfl, rfl, h1, h2⟩ := h
  obtain ⟨v1, v2, f1, f2, rfl, rfl, k1, k2⟩ := zav.split h2
  exact ⟨v :: v1, v2, g1 ++ f1, f2, rfl, by simp, ⟨v, v1, g1, f1, rfl, rfl, h1, k1⟩, k2⟩
theorem zav.len {w : World} : ∀ {cs : List T} {vs : List Value} {fps : List Nat}, zav w cs vs fps -> vs.length = cs.length
 | [], vs, fps, h => by rw [h.1]; rfl
 | c :: cs, vs, fps, h => by obtain ⟨v, vs', f1, f2, rfl, rfl, _, h2⟩ := h; simp [zav.len h2]
theorem za4.of_vals {w : World} {cells : Array Value} : ∀ {cs : List T} {o : Nat} {vs : List Value} {fps : List Nat}, zav w cs vs fps -> (∀ j u, vs[j]? = some u -> cells[o + j]? = some u) -> za4 w cells o cs fps
 | [], _, _, _, h, _ => by unfold za4; exact h.2
 | c :: cs, o, vs, fps, h, hc => by
  obtain ⟨v, vs', f1, f2, rfl, rfl, h1, h2⟩ := h
  unfold za4
  refine ⟨v, f1, f2, hc 0 v rfl, rfl, h1, za4.of_vals h2 fun j u hu => ?_⟩
  have := hc (j + 1) u (by simpa using hu)
  rwa [show o + (j + 1) = o + 1 + j by omega] at this
theorem zag.of_vals {w : World} {cells : Array Value} {sz : Nat} : ∀ {rows : List (List T)} {o : Nat} {vs : List Value} {fps : List Nat}, lens sz rows -> zav w rows.flatten vs fps -> (∀ j u, vs[j]? = some u -> cells[o + j]? = some u) -> zag w cells o sz rows fps
 | [], _, _, _, _, h, _ => by unfold zag; exact h.2
 | r :: rows, o, vs, fps, l, h, hc => by
  rw [List.flatten_cons] at h
  obtain ⟨v1, v2, f1, f2, rfl, rfl, h1, h2⟩ := h.split
  have hl := l r (by simp)
  have hl1 := h1.len
  unfold zag
  refine ⟨hl, f1, f2, rfl, za4.of_vals h1 fun j u hu => hc j u (by rw [List.getElem?_append_left (by have := List.getElem?_eq_some_iff.1 hu; exact this.1)]; exact hu), zag.of_vals (vs := v2) (fun x hx => l x (by simp [hx])) h2 fun j u hu => ?_⟩
  have := hc (sz + j) u (by rw [List.getElem?_append_right (by omega)]; rwa [show sz + j - v1.length = j by omega])
  rwa [<- Nat.add_assoc] at this
theorem zav.keep {w w' : World} : ∀ {cs : List T} {vs : List Value} {fps : List Nat}, zav w cs vs fps -> (∀ b ∈ fps, w'.heap[b]? = w.heap[b]?) -> zav w' cs vs fps
 | [], _, _, h, _ => h
 | c :: cs, vs, fps, h, hs => by
  obtain ⟨v, vs', f1, f2, rfl, rfl, h1, h2⟩ := h
  exact ⟨v, vs', f1, f2, rfl, rfl, zao.keep c v f1 h1 fun b hb => hs b (by simp [hb]), zav.keep h2 fun b hb => hs b (by simp [hb])⟩
theorem zav.rep {w : World} {A : Nat -> Prop} : ∀ {cs : List T} {vs : List Value} {fps : List Nat}, zav w cs vs fps -> (∀ b ∈ fps, A b) -> zad w A cs vs
 | [], vs, _, h, _ => by unfold zad; exact h.1
 | c :: cs, vs, fps, h, hs => by
  obtain ⟨v, vs', f1, f2, rfl, rfl, h1, h2⟩ := h
  unfold zad
  exact ⟨v, vs', rfl, zao.rep c v f1 h1 fun b hb => hs b (by simp [hb]), zav.rep h2 fun b hb => hs b (by simp [hb])⟩
theorem zad.own {w : World} {A : Nat -> Prop} : ∀ {cs : List T} {vs : List Value}, zad w A cs vs -> (∀ c ∈ cs, c.flat = true) -> zav w cs vs []
 | [], vs, h, _ => by unfold zad at h; exact ⟨h, rfl⟩
 | c :: cs, vs, h, hf => by
  unfold zad at h
  obtain ⟨v, vs', rfl, h1, h2⟩ := h
  refine ⟨v, vs', [], [], rfl, rfl, ?_, zad.own h2 fun x hx => hf x (by simp [hx])⟩
  have := hf c (by simp)
  cases c <;> simp only [T.flat, Bool.false_eq_true] at this
  ·unfold zai at h1; unfold zao; exact ⟨h1.1, h1.2.1, h1.2.2, rfl⟩
  ·unfold zai at h1; unfold zao; exact ⟨h1, rfl⟩
  ·unfold zai at h1; unfold zao; exact ⟨h1.1, h1.2, rfl⟩
  ·unfold zai at h1; unfold zao; exact ⟨h1, rfl⟩
theorem zad.one {w : World} {A : Nat -> Prop} {cs : List T} {vs : List Value} (h : zad w A cs vs) : ∀ u ∈ vs, u.oneCell' = true := by
 intro u hu
 obtain ⟨j, hj, rfl⟩ := List.getElem_of_mem hu
 obtain ⟨v, k1, k2⟩ := h.at j (cs[j]'(by rw [<- h.len]; exact hj)) (by simp)
 rw [List.getElem?_eq_getElem hj, Option.some.injEq] at k1
 rw [k1]
 exact (zai.one k2).1
theorem Rel.vals {n0 : Nat -> Prop} {N : Nat} {σ : St} {g : Gh} {a : Act} {w : World} (h : Rel n0 N σ g a w) {e : Nat} {x : Ev} (he : σ.ev e = some x) (ho : x.on = true) :
  ∃ ao cap vs, g.ψ e x.gen = .slice ao x.rows.length cap /\ x.rows.length <= cap /\ cap <= zds /\ lens x.sz x.rows /\ vs.length = x.rows.length * x.sz /\ zad w (Fix σ g w) x.rows.flatten vs ∧
   ((ao = none /\ cap = 0 /\ x.rows = [] /\ g.φ e = []) \/ ∃ b cells ty fps, ao = some ⟨b, 0, none⟩ /\ g.φ e = b :: fps /\ w.heap[b]? = some (.cells cells ty (0, 0)) /\ cells.size = cap * x.sz /\ cells.toList.take (x.rows.length * x.sz) = vs /\ (x.deep = true -> zav w x.rows.flatten vs fps) /\ (x.deep = false -> fps = [])) := by
 obtain ⟨ao, cap, e1, e2, e3, e4⟩ := h.evs e x he ho
 rcases e4 with ⟨k1, k2, k3, k4⟩ | ⟨b, cells, ty, fps, k1, k2, k3, k4, k5⟩
 ·refine ⟨ao, cap, [], e1, e2, e3, by rw [k3]; simp [lens], by rw [k3]; simp, by rw [k3]; unfold zad; rfl, Or.inl ⟨k1, k2, k3, k4⟩⟩
 ·have hfp : ∀ b' ∈ fps, b' < w.heap.size -> Fix σ g w b' := fun b' hb' hl => h.fixes he ho (by rw [k2]; exact hb') hl
  have hpre : ∀ vs : List Value, vs.length = x.rows.length * x.sz -> (∀ j u, vs[j]? = some u -> cells[0 + j]? = some u) -> cells.toList.take (x.rows.length * x.sz) = vs := fun vs hl hc => by
   apply List.ext_getElem?
   intro j
   rw [List.getElem?_take]
   split
   ·have hj : j < vs.length := by omega
    have := hc j vs[j] (by simp [hj])
    rw [Nat.zero_add] at this
    rw [List.getElem?_eq_getElem hj]
    simpa using this
   ·rw [List.getElem?_eq_none (by omega)]
  split at k5
  ·obtain ⟨l, vs, j1, j2, j3⟩ := k5.vals
   exact ⟨ao, cap, vs, e1, e2, e3, l, j1, j3.rep fun b' hb' => hfp b' hb' (zag.lt cells 0 x.sz x.rows fps k5 b' hb'), Or.inr ⟨b, cells, ty, fps, k1, k2, k3, k4, hpre vs j1 j2, fun _ => j3, fun hh => by simp_all⟩⟩
  ·obtain ⟨l, vs, j1, j2, j3⟩ := k5.2.vals
   exact ⟨ao, cap, vs, e1, e2, e3, l, j1, j3, Or.inr ⟨b, cells, ty, fps, k1, k2, k3, k4, hpre vs j1 fun j u hu => by have := j2 j u hu; simpa [World.cell?, k3] using this, fun hh => by simp_all, fun _ => k5.1⟩⟩
end Go.Proofs.YtaaniggpnljckaaGreat
namespace Go.Proofs.YtaaniggpnljckaaGreat
set_option linter.unusedSimpArgs false
set_option linter.unusedVariables false
set_option linter.unusedSectionVars false
set_option maxRecDepth 4000
open Go.RowKit
variable {P : Program}
structure Tgt (n0 : Nat -> Prop) (σ : St) (g : Gh) (w : World) (e : Nat) (x : Ev) (v : Value) (vs : List Value) (fps : List Nat) (top : Option Nat) : Prop where
 lens : lens x.sz x.rows
 len : vs.length = x.rows.length * x.sz
 rep : zad w (Fix σ g w) x.rows.flatten vs
 own : x.deep = true -> zav w x.rows.flatten vs fps
 val : (v = .slice none 0 0 /\ x.rows = [] /\ vs = [] /\ top = none /\ fps = []) \/ ∃ b cap cells ty, v = .slice (some ⟨b, 0, none⟩) x.rows.length cap /\ x.rows.length <= cap /\ cap <= zds /\ w.heap[b]? = some (.cells cells ty (0, 0)) /\ cells.size = cap * x.sz /\ cells.toList.take (x.rows.length * x.sz) = vs /\ top = some b
 fix : ∀ b, Fix σ g w b -> some b ≠ top
 bx : ∀ b, (some b = top \/ b ∈ fps) -> (∀ k, σ.bx k ≠ none -> g.β k ≠ b) /\ (g.A0 b /\ g.R0 b /\ ¬ n0 b) /\ b < w.heap.size /\ ∀ e', e' ≠ e -> σ.On e' -> b ∉ g.φ e'
 nodup : fps.Nodup
 topfp : ∀ b, some b = top -> b ∉ fps
 shal : x.deep = false -> fps = []
 mem : ∀ b, (some b = top \/ b ∈ fps) -> ∃ e, σ.On e /\ b ∈ g.φ e
theorem Rel.tgt {n0 : Nat -> Prop} {N : Nat} {σ : St} {g : Gh} {a : Act} {w : World} (h : Rel n0 N σ g a w) {e : Nat} {x : Ev} (he : σ.ev e = some x) (ho : x.on = true) : ∃ vs fps top, Tgt n0 σ g w e x (g.ψ e x.gen) vs fps top := by
 obtain ⟨ao, cap, vs, h1, h2, h3, h4, h5, h6, h7⟩ := h.vals he ho
 have hne : σ.On e := ⟨x, he, ho⟩
 rcases h7 with ⟨rfl, rfl, k3, k4⟩ | ⟨b, cells, ty, fps, rfl, k2, k3, k4, k5, k6, k7⟩
 ·have hvs : vs = [] := List.eq_nil_of_length_eq_zero (by rw [h5, k3]; simp)
  refine ⟨vs, [], none, h4, h5, h6, fun _ => ?_, Or.inl ⟨by rw [h1, k3]; rfl, k3, hvs, rfl, rfl⟩, by simp, by simp, List.nodup_nil, by simp, fun _ => rfl, by simp⟩
  rw [k3, hvs]; exact ⟨rfl, rfl⟩
 ·have hn := h.nodup e hne
  rw [k2] at hn
  have hmem : ∀ b', (some b' = some b \/ b' ∈ fps) -> b' ∈ g.φ e := fun b' hb' => by
   rw [k2]
   rcases hb' with hb' | hb'
   ·cases hb'; simp
   ·simp [hb']
  refine ⟨vs, fps, some b, h4, h5, h6, k6, Or.inr ⟨b, cap, cells, ty, h1, h2, h3, k3, k4, k5, rfl⟩, fun b' hf hb' => ?_, fun b' hb' => ⟨fun k hk hkb => h.ebx e k hne hk (hkb ▸ hmem b' hb'), ⟨(h.ebase e hne b' (hmem b' hb')).1, (h.ebase e hne b' (hmem b' hb')).2, h.etop e hne b' (hmem b' hb')⟩, (h.evs e x he ho).lt b' (hmem b' hb'), fun e' hee he' hm => h.apart e e' hne he' (Ne.symm hee) b' (hmem b' hb') hm⟩, (List.nodup_cons.1 hn).2, fun b' hb' => by cases hb'; exact (List.nodup_cons.1 hn).1, k7, fun b' hb' => ⟨e, hne, hmem b' hb'⟩⟩
  exact hf.2.1 e x he ho (by rw [k2]; exact hb'.symm)
theorem Tgt.nil {n0 : Nat -> Prop} {σ : St} {g : Gh} {w : World} (e sz : Nat) : Tgt n0 σ g w e ⟨true, sz, [], 0, true⟩ (.slice none 0 0) [] [] none :=
 ⟨by simp [Go.Proofs.YtaaniggpnljckaaGreat.lens], by simp, by unfold zad; rfl, fun _ => ⟨rfl, rfl⟩, Or.inl ⟨rfl, rfl, rfl, rfl, rfl⟩, by simp, by simp, List.nodup_nil, by simp, fun _ => rfl, by simp⟩
def Ev.off (x : Ev) : Ev := { x with on := false }
def offs : List (Nat × Ev) -> (Nat -> Option Ev) -> (Nat -> Option Ev)
 | [], f => f
 | (e2, x2) :: l, f => upd (offs l f) e2 (some x2.off)
theorem zv6 {f : Nat -> Option Ev} : ∀ {l : List (Nat × Ev)} (e : Nat) (x : Ev), offs l f e = some x -> (f e = some x /\ ∀ p ∈ l, p.1 ≠ e) \/ ∃ y, (e, y) ∈ l /\ x = y.off
 | [], e, x, h => Or.inl ⟨h, by simp⟩
 | (e2, x2) :: l, e, x, h => by
  unfold offs at h
  by_cases he : e = e2
  ·subst he
   rw [zac, Option.some.injEq] at h
   exact Or.inr ⟨x2, by simp, h.symm⟩
  ·rw [zah _ _ he] at h
   rcases zv6 e x h with ⟨h1, h2⟩ | ⟨y, h1, h2⟩
   ·refine Or.inl ⟨h1, fun p hp => ?_⟩
    rcases List.mem_cons.1 hp with rfl | hp
    ·exact fun hh => he hh.symm
    ·exact h2 p hp
   ·exact Or.inr ⟨y, by simp [h1], h2⟩
theorem zly {f : Nat -> Option Ev} : ∀ {l : List (Nat × Ev)} (e : Nat) (x : Ev), (∀ p ∈ l, f p.1 = some p.2) -> f e = some x -> ∃ y, offs l f e = some y /\ y.gen = x.gen
 | [], e, x, _, h => ⟨x, h, rfl⟩
 | (e2, x2) :: l, e, x, hl, h => by
  unfold offs
  by_cases he : e = e2
  ·subst he
   have := hl (e, x2) (by simp)
   rw [h, Option.some.injEq] at this
   subst this
   exact ⟨x.off, by rw [zac], rfl⟩
  ·rw [zah _ _ he]
   exact zly e x (fun p hp => hl p (by simp [hp])) h
def St.apd (σ : St) (e : Nat) (cons : List (Nat × Ev)) (x : Ev) : St :=
 { σ with ev := upd (offs cons σ.ev) e (some x) }
theorem Rel.apd_fin {n0 : Nat -> Prop} {N : Nat} {σ : St} {g : Gh} {a : Act} {w w' : World} (hR : Rel n0 N σ g a w) {e : Nat} {x y : Ev} {v v' : Value} {vs : List Value} {fps : List Nat} {top : Option Nat} (ht : Tgt n0 σ g w e x v vs fps top)
  (hy : y.on = true) (hst : ∀ n, σ.has e n -> n <= y.gen /\ (n = y.gen -> g.ψ e n = v'))
  {cons : List (Nat × Ev)} (hc : ∀ p ∈ cons, σ.ev p.1 = some p.2 /\ p.2.on = true /\ p.1 ≠ e) {fps2 : List Nat} (hf2 : ∀ b ∈ fps2, ∃ p ∈ cons, b ∈ g.φ p.1)
  (nb : Nat) (hnb0 : some nb = top \/ w.heap.size <= nb) (hsame : ∀ k, k < w.heap.size -> k ≠ nb -> w'.heap[k]? = w.heap[k]?) (hsize : w.heap.size <= w'.heap.size) (hn0 : LtK n0 w)
  {fp' : List Nat} (hn' : fp'.Nodup) (hfp : ∀ b ∈ fp', b = nb \/ b ∈ fps \/ b ∈ fps2) (hhead : ∀ b, fp'.head? = some b -> b = nb)
  (hEv : ∀ A' : Nat -> Prop, (∀ b, Fix σ g w b -> A' b) -> EvR w' A' y v' fp') :
  Rel n0 N (σ.apd e cons y) { g with ψ := upd g.ψ e (upd (g.ψ e) y.gen v'), φ := upd g.φ e fp' } a w' := by
 have hnb : ∀ b, Fix σ g w b -> b ≠ nb := fun b hf hb => by
  subst hb
  rcases hnb0 with hh | hh
  ·exact ht.fix b hf hh
  ·have := hf.2.2.1; omega
 have hbxb : ∀ k, σ.bx k ≠ none -> g.β k ≠ nb := fun k hk hkn => by
  rcases hnb0 with hh | hh
  ·exact (ht.bx nb (Or.inl hh)).1 k hk hkn
  ·have := hR.lt hk; omega
 have hltO : ∀ e', σ.On e' -> ∀ b ∈ g.φ e', b < w.heap.size := fun e' he' b hb => by
  obtain ⟨z, hz, ho⟩ := he'
  exact (hR.evs e' z hz ho).lt b hb
 have hevb : ∀ e', e' ≠ e -> σ.On e' -> nb ∉ g.φ e' := fun e' hee he' hm => by
  rcases hnb0 with hh | hh
  ·exact (ht.bx nb (Or.inl hh)).2.2.2 e' hee he' hm
  ·have := hltO e' he' _ hm; omega
 have hcO : ∀ p ∈ cons, σ.On p.1 := fun p hp => ⟨p.2, (hc p hp).1, (hc p hp).2.1⟩
 have hev : ∀ e' z, e' ≠ e -> (σ.apd e cons y).ev e' = some z -> (σ.ev e' = some z /\ ∀ p ∈ cons, p.1 ≠ e') \/ ∃ q, (e', q) ∈ cons /\ z = q.off := fun e' z hee he' => by
  simp only [St.apd, zah _ _ hee] at he'
  exact zv6 e' z he'
 have hlive : ∀ e' z, e' ≠ e -> (σ.apd e cons y).ev e' = some z -> z.on = true -> σ.ev e' = some z /\ ∀ p ∈ cons, p.1 ≠ e' := fun e' z hee he' ho => by
  rcases hev e' z hee he' with h | ⟨q, _, h⟩
  ·exact h
  ·rw [h] at ho; cases ho
 have hon : ∀ e', e' ≠ e -> (σ.apd e cons y).On e' -> σ.On e' /\ ∀ p ∈ cons, p.1 ≠ e' := fun e' hee he' => by
  obtain ⟨z, hz, ho⟩ := he'
  obtain ⟨h1, h2⟩ := hlive e' z hee hz ho
  exact ⟨⟨z, h1, ho⟩, h2⟩
 have hyE : (σ.apd e cons y).ev e = some y := by simp [St.apd, zac]
 have hfix : ∀ b, b < w.heap.size -> g.A0 b -> (∀ k, σ.bx k ≠ none -> g.β k ≠ b) -> b ≠ nb -> (∀ e', e' ≠ e -> (σ.apd e cons y).On e' -> (g.φ e').head? ≠ some b) -> Fix (σ.apd e cons y) { g with ψ := upd g.ψ e (upd (g.ψ e) y.gen v'), φ := upd g.φ e fp' } w' b := fun b h1 h2 h3 h4 h5 => by
  refine ⟨h3, fun e' z he' ho' hh => ?_, Nat.lt_of_lt_of_le h1 hsize, h2⟩
  by_cases hee : e' = e
  ·subst hee
   simp only [zac] at hh
   exact h4 (hhead b hh)
  ·simp only [zah _ _ hee] at hh
   exact h5 e' hee ⟨z, he', ho'⟩ hh
 have hb2 : ∀ b, Fix σ g w b -> Fix (σ.apd e cons y) { g with ψ := upd g.ψ e (upd (g.ψ e) y.gen v'), φ := upd g.φ e fp' } w' b := fun b hf =>
  hfix b hf.2.2.1 hf.2.2.2 hf.1 (hnb b hf) fun e' hee he' => by
   obtain ⟨z, hz, ho⟩ := (hon e' hee he').1
   exact hf.2.1 e' z hz ho
 have hb1 : ∀ b, Fix σ g w b -> w'.heap[b]? = w.heap[b]? := fun b hf => hsame b hf.2.2.1 (hnb b hf)
 have hψ : ∀ e' n, σ.has e' n -> (upd g.ψ e (upd (g.ψ e) y.gen v')) e' n = g.ψ e' n := fun e' n he' => by
  by_cases hee : e' = e
  ·subst hee
   have := hst n he'
   rw [zac]
   by_cases hn : n = y.gen
   ·rw [this.2 hn, hn, zac]
   ·rw [zah _ _ hn]
  ·rw [zah _ _ hee]
 have hfr : ∀ b, zbr σ g w b -> ∀ e', (σ.apd e cons y).On e' -> b ∉ upd g.φ e fp' e' := fun b hf e' he' hm => by
  by_cases hee : e' = e
  ·subst hee
   rw [zac] at hm
   rcases hfp b hm with h | h | h
   ·exact hnb b hf.1 h
   ·obtain ⟨e2, h1, h2⟩ := ht.mem b (Or.inr h)
    exact hf.2 e2 h1 h2
   ·obtain ⟨p, hp, h2⟩ := hf2 b h
    exact hf.2 p.1 (hcO p hp) h2
  ·rw [zah _ _ hee] at hm
   exact hf.2 e' (hon e' hee he').1 hm
 have m : Mv σ (σ.apd e cons y) g { g with ψ := upd g.ψ e (upd (g.ψ e) y.gen v'), φ := upd g.φ e fp' } w w' := by
  refine ⟨hb1, hb2, fun b hb => ⟨rfl, hb⟩, fun e' n he' => ⟨?_, hψ e' n he'⟩, hfr⟩
  by_cases hee : e' = e
  ·subst hee
   exact ⟨y, hyE, (hst n he').1⟩
  ·obtain ⟨z, hz, hn⟩ := he'
   obtain ⟨q, h1, h2⟩ := zly (l := cons) e' z (fun p hp => (hc p hp).1) hz
   exact ⟨q, by simp only [St.apd, zah _ _ hee]; exact h1, by omega⟩
 have hread : ∀ e2 x2, (e2, x2) ∈ cons -> zai w' (Fix (σ.apd e cons y) { g with ψ := upd g.ψ e (upd (g.ψ e) y.gen v'), φ := upd g.φ e fp' } w') (.sl x2.sz x2.rows) (g.ψ e2 x2.gen) /\ Hd0 (g.ψ e2 x2.gen) := fun e2 x2 hcc => by
  obtain ⟨he2, ho2, hne⟩ := hc _ hcc
  have hl2 : σ.On e2 := hcO _ hcc
  obtain ⟨ao, cap, vs2, k1, k2, k3, k4, k5, k6, k7⟩ := hR.vals he2 ho2
  rcases k7 with ⟨rfl, _, j3, _⟩ | ⟨b, cells, ty, fps', rfl, j2, j3, j4, j5, _, _⟩
  ·refine ⟨?_, fun b o s n c hh => by simp only at k1; rw [k1] at hh; cases hh⟩
   unfold zai
   exact ⟨none, cap, k1, k2, k3, Or.inl j3⟩
  ·have hbm : b ∈ g.φ e2 := by simp only at j2; rw [j2]; simp
   have hbl : b < w.heap.size := hltO e2 hl2 b hbm
   have hF : Fix (σ.apd e cons y) { g with ψ := upd g.ψ e (upd (g.ψ e) y.gen v'), φ := upd g.φ e fp' } w' b := hfix b hbl (hR.ebase e2 hl2 b hbm).1 (fun k hk hkb => hR.ebx e2 k hl2 hk (hkb ▸ hbm)) (fun hbb => hevb e2 hne hl2 (hbb ▸ hbm)) fun e' hee he' hh => by
    obtain ⟨q1, q2⟩ := hon e' hee he'
    exact hR.apart e2 e' hl2 q1 (q2 _ hcc) b hbm (List.mem_of_mem_head? hh)
   have hsb : w'.heap[b]? = w.heap[b]? := hsame b hbl fun hbb => hevb e2 hne hl2 (hbb ▸ hbm)
   have hrows : zak w' (Fix (σ.apd e cons y) { g with ψ := upd g.ψ e (upd (g.ψ e) y.gen v'), φ := upd g.φ e fp' } w') b 0 x2.sz x2.rows := by
    refine zak.of_vals (vs := vs2) k4 (zad.keep hb1 hb2 _ _ k6) fun j u hu => ?_
    rw [<- j5, List.getElem?_take] at hu
    split at hu
    ·simpa [World.cell?, hsb, j3] using hu
    ·cases hu
   refine ⟨?_, fun b' o s n c hh => ?_⟩
   ·unfold zai
    exact ⟨_, cap, k1, k2, k3, Or.inr ⟨b, 0, rfl, hF, hrows⟩⟩
   ·simp only at k1
    rw [k1] at hh
    injection hh with hh _ _
    simp only [Option.some.injEq, Addr.mk.injEq] at hh
    exact ⟨hh.2.1.symm, hh.2.2.symm⟩
 have hnn : ¬ n0 nb := by
  rcases hnb0 with hh | hh
  ·exact (ht.bx nb (Or.inl hh)).2.1.2.2
  ·exact hn0.new hh
 have hfpP : ∀ b ∈ fp', (g.A0 b /\ g.R0 b) /\ (∀ e', e' ≠ e -> (σ.apd e cons y).On e' -> b ∉ g.φ e') /\ ∀ k, σ.bx k ≠ none -> g.β k ≠ b := fun b hb => by
  have old : (some b = top \/ b ∈ fps) -> (g.A0 b /\ g.R0 b) /\ (∀ e', e' ≠ e -> (σ.apd e cons y).On e' -> b ∉ g.φ e') /\ ∀ k, σ.bx k ≠ none -> g.β k ≠ b := fun hb => by
   obtain ⟨q1, q2, q3, q4⟩ := ht.bx b hb
   exact ⟨⟨q2.1, q2.2.1⟩, fun e' hee he' => q4 e' hee (hon e' hee he').1, q1⟩
  rcases hfp b hb with rfl | hb | hb
  ·rcases hnb0 with hh | hh
   ·exact old (Or.inl hh)
   ·exact ⟨hR.anew b (hn0.new hh), fun e' hee he' hm => hevb e' hee (hon e' hee he').1 hm, fun k hk => hbxb k hk⟩
  ·exact old (Or.inr hb)
  ·obtain ⟨p, hcc, hm⟩ := hf2 b hb
   have hl2 := hcO p hcc
   exact ⟨hR.ebase p.1 hl2 b hm, fun e' hee he' hm2 => by
    obtain ⟨q1, q2⟩ := hon e' hee he'
    exact hR.apart p.1 e' hl2 q1 (q2 p hcc) b hm hm2, fun k hk hkb => hR.ebx p.1 k hl2 hk (hkb ▸ hm)⟩
 have hfpN : ∀ b ∈ fp', ¬ n0 b := fun b hb => by
  rcases hfp b hb with rfl | hb | hb
  ·exact hnn
  ·exact (ht.bx b (Or.inr hb)).2.1.2.2
  ·obtain ⟨p, hcc, hm⟩ := hf2 b hb
   exact hR.etop p.1 (hcO p hcc) b hm
 refine ⟨hR.defers, hR.size, hR.anew, fun i => m.vr (hR.slots i), fun b cs hb => ?_, hR.base, hR.inj, fun e' z he ho => ?_, fun e' z he ho => ?_, fun e' n => ?_, fun e' he b hb => ?_, fun e' he b hb => ?_, fun e' he => ?_, fun e1 e2 h1 h2 hne b k1 k2 => ?_, fun e' k he hk hm => ?_⟩
 ·have hb' : σ.bx b = some cs := hb
  obtain ⟨vs, ty, k1, k2⟩ := hR.boxes b cs hb'
  exact ⟨vs, ty, by
   show w'.heap[g.β b]? = _
   rw [hsame _ (hR.lt (by rw [hb']; simp)) (hbxb b (by rw [hb']; simp))]; exact k1, m.crs k2⟩
 ·by_cases hee : e' = e
  ·subst hee
   rw [hyE, Option.some.injEq] at he
   subst he
   simp only [zac]
   exact hEv _ hb2
  ·simp only [zah _ _ hee]
   have h1 := (hlive e' z hee he ho).1
   have hO : σ.On e' := ⟨z, h1, ho⟩
   exact m.evr (hR.evs e' z h1 ho) fun b hb => hsame b (hltO e' hO b hb) fun hbb => hevb e' hee hO (hbb ▸ hb)
 ·by_cases hee : e' = e
  ·subst hee
   rw [hyE, Option.some.injEq] at he
   subst he
   rw [hy] at ho; cases ho
  ·simp only [zah _ _ hee]
   rcases hev e' z hee he with ⟨h1, _⟩ | ⟨q, hq, rfl⟩
   ·exact ⟨m.rep (hR.offs e' z h1 ho).1, (hR.offs e' z h1 ho).2⟩
   ·exact hread e' q hq
 ·by_cases hee : e' = e
  ·subst hee
   simp only [zac]
   by_cases hg : n = y.gen
   ·subst hg
    obtain ⟨ao, cap, k1, _⟩ := hEv (fun _ => True) fun _ _ => trivial
    exact ⟨ao, _, cap, by rw [zac]; exact k1⟩
   ·rw [zah _ _ hg]; exact hR.slc e' n
  ·simp only [zah _ _ hee]; exact hR.slc e' n
 ·by_cases hee : e' = e
  ·subst hee
   simp only [zac] at hb
   exact (hfpP b hb).1
  ·simp only [zah _ _ hee] at hb; exact hR.ebase e' (hon e' hee he).1 b hb
 ·by_cases hee : e' = e
  ·subst hee
   simp only [zac] at hb
   exact hfpN b hb
  ·simp only [zah _ _ hee] at hb; exact hR.etop e' (hon e' hee he).1 b hb
 ·by_cases hee : e' = e
  ·subst hee
   simp only [zac]; exact hn'
  ·simp only [zah _ _ hee]; exact hR.nodup e' (hon e' hee he).1
 ·by_cases he1 : e1 = e <;> by_cases he2 : e2 = e
  ·exact hne (he1.trans he2.symm)
  ·subst he1
   simp only [zac, zah _ _ he2] at k1 k2
   exact (hfpP b k1).2.1 e2 he2 h2 k2
  ·subst he2
   simp only [zac, zah _ _ he1] at k1 k2
   exact (hfpP b k2).2.1 e1 he1 h1 k1
  ·simp only [zah _ _ he1, zah _ _ he2] at k1 k2
   exact hR.apart e1 e2 (hon e1 he1 h1).1 (hon e2 he2 h2).1 hne b k1 k2
 ·by_cases hee : e' = e
  ·subst hee
   simp only [zac] at hm
   exact (hfpP _ hm).2.2 k hk rfl
  ·simp only [zah _ _ hee] at hm; exact hR.ebx e' k (hon e' hee he).1 hk hm
structure Src (σ : St) (g : Gh) (w : World) (e : Nat) (cons : List (Nat × Ev)) (sz : Nat) (rows2 : List (List T)) (dp2 : Bool) (v : Value) : Prop where
 ex : ∃ ao cap news fps2, v = .slice ao rows2.length cap /\ lens sz rows2 /\ news.length = rows2.length * sz /\ zad w (Fix σ g w) rows2.flatten news /\ (dp2 = true -> zav w rows2.flatten news fps2) /\ fps2.Nodup ∧
  (∀ b ∈ fps2, ∃ p ∈ cons, b ∈ (g.φ p.1).tail) /\ (rows2.length = 0 \/ ∃ a : Addr, ao = some a /\ ∀ j u, news[j]? = some u -> w.cell? (a.add j) = some u)
 cons : ∀ p ∈ cons, σ.ev p.1 = some p.2 /\ p.2.on = true /\ p.1 ≠ e
theorem Src.own {n0 : Nat -> Prop} {N : Nat} {σ : St} {g : Gh} {a : Act} {w : World} (hR : Rel n0 N σ g a w) {e e2 : Nat} {x2 : Ev} (h : σ.ev e2 = some x2) (ho : x2.on = true) (hne : e2 ≠ e) : Src σ g w e [(e2, x2)] x2.sz x2.rows x2.deep (g.ψ e2 x2.gen) := by
 refine ⟨?_, fun p hh => by simp only [List.mem_cons, List.not_mem_nil, or_false] at hh; subst hh; exact ⟨h, ho, hne⟩⟩
 obtain ⟨ao, cap, vs, h1, h2, h3, h4, h5, h6, h7⟩ := hR.vals h ho
 rcases h7 with ⟨rfl, _, j3, _⟩ | ⟨b, cells, ty, fps, rfl, j2, j3, j4, j5, j6, _⟩
 ·refine ⟨none, cap, vs, [], h1, h4, h5, h6, fun _ => ?_, List.nodup_nil, by simp, Or.inl (by rw [j3]; rfl)⟩
  have : vs = [] := List.eq_nil_of_length_eq_zero (by rw [h5, j3]; simp)
  rw [j3, this]; exact ⟨rfl, rfl⟩
 ·have hn := hR.nodup e2 ⟨x2, h, ho⟩
  rw [j2] at hn
  refine ⟨_, cap, vs, fps, h1, h4, h5, h6, j6, (List.nodup_cons.1 hn).2, fun b' hb' => ⟨(e2, x2), by simp, by simp only; rw [j2]; exact hb'⟩, Or.inr ⟨_, rfl, fun j u hu => ?_⟩⟩
  rw [zdt, Nat.zero_add]
  rw [<- j5, List.getElem?_take] at hu
  split at hu
  ·simpa [World.cell?, j3] using hu
  ·cases hu
theorem Src.rd {n0 : Nat -> Prop} {N : Nat} {σ : St} {g : Gh} {a : Act} {w : World} (hR : Rel n0 N σ g a w) (e : Nat) {sz : Nat} {rows2 : List (List T)} {v : Value} (h : zai w (Fix σ g w) (.sl sz rows2) v) {dp2 : Bool} (hd : dp2 = true -> ∀ c ∈ rows2.flatten, c.flat = true) : Src σ g w e [] sz rows2 dp2 v := by
 refine ⟨?_, fun _ hh => (nomatch hh)⟩
 unfold zai at h
 obtain ⟨ao, cap, h1, h2, h3, h4⟩ := h
 rcases h4 with rfl | ⟨b, o, rfl, h4, h5⟩
 ·exact ⟨ao, cap, [], [], h1, by simp [lens], by simp, by unfold zad; rfl, fun _ => ⟨rfl, rfl⟩, List.nodup_nil, by simp, Or.inl rfl⟩
 ·obtain ⟨l, vs, k1, k2, k3⟩ := h5.vals
  refine ⟨_, cap, vs, [], h1, l, k1, k3, fun hh => k3.own (hd hh), List.nodup_nil, by simp, Or.inr ⟨_, rfl, fun j u hu => by rw [zdt]; exact k2 j u hu⟩⟩
theorem Rel.append {n0 : Nat -> Prop} {N : Nat} {σ : St} {g : Gh} {a : Act} {w : World} (hR : Rel n0 N σ g a w) (hn0 : LtK n0 w) {e : Nat} {x : Ev} {v : Value} {vs : List Value} {fps : List Nat} {top : Option Nat} (ht : Tgt n0 σ g w e x v vs fps top)
  {gn : Nat} (hst : ∀ n, σ.has e n -> n < gn) {cons : List (Nat × Ev)} {rows2 : List (List T)} {dp2 : Bool} {u : Value} (hs : Src σ g w e cons x.sz rows2 dp2 u) {dp : Bool} (hdp : dp = true -> x.deep = true /\ dp2 = true)
  (t ty el : TypeId) (bytes : Nat) (hty : P.underlying t = some (.slice el)) (hn : zbc P el = some x.sz) (hby : zcu P el = some bytes) (z : List C) (hz : zcs P el = some z) (hzl : z.length = x.sz)
  (hb1 : x.rows.length + rows2.length <= 4294967296) (hb2 : bytes <= 16384) :
  ∃ v' w' g', (Builtin.append_ #[t, t] ty #[v, u]).run P w = .ok v' w' /\ Rel n0 N (σ.apd e cons ⟨dp, x.sz, x.rows ++ rows2, gn, true⟩) g' a w' /\ v' = g'.ψ e gn /\ g'.A0 = g.A0 /\ g'.R0 = g.R0 /\ Bk n0 w w' := by
 obtain ⟨ao, c2, news, fps2, rfl, l2, nl2, r2, o2, nd2, m2, src2⟩ := hs.ex
 have m2' : ∀ b ∈ fps2, ∃ p ∈ cons, b ∈ g.φ p.1 := fun b hb => by obtain ⟨p, h1, h2⟩ := m2 b hb; exact ⟨p, h1, List.mem_of_mem_tail h2⟩
 have hcO : ∀ p ∈ cons, σ.On p.1 := fun p hp => ⟨p.2, (hs.cons p hp).1, (hs.cons p hp).2.1⟩
 have hval : (v = .slice none 0 0 /\ x.rows.length = 0 /\ vs = []) \/ ∃ b cap cells cty, v = .slice (some ⟨b, 0, none⟩) x.rows.length cap /\ x.rows.length <= cap /\ cap <= zds /\ w.heap[b]? = some (.cells cells cty (0, 0)) /\ cells.size = cap * x.sz /\ cells.toList.take (x.rows.length * x.sz) = vs /\ top = some b := by
  rcases ht.val with ⟨h1, h2, h3, _⟩ | h
  ·exact Or.inl ⟨h1, by rw [h2]; rfl, h3⟩
  ·exact Or.inr h
 obtain ⟨v', w', hrun, hap⟩ := zs7 (P := P) w t ty el x.sz bytes hty hn hby z hz hzl v x.rows.length top vs hval ao rows2.length c2 news nl2 src2 r2.one hb1 hb2
 have hbel : ∀ nb : Nat, (some nb = top \/ w.heap.size <= nb) -> (∀ k, k < w.heap.size -> k ≠ nb -> w'.heap[k]? = w.heap[k]?) -> Bk n0 w w' := fun nb h1 h2 => ⟨hap.os, hap.tape, hap.output, hap.size, fun k hk => h2 k (hn0 k hk) fun hkn => by
  subst hkn
  rcases h1 with hh | hh
  ·exact (ht.bx k (Or.inl hh)).2.1.2.2 hk
  ·have := hn0 k hk; omega⟩
 rcases hap.res with ⟨h1, h2, h3, rfl⟩ | ⟨b, cap, cells, ty', h1, h2, h3, h4, h5, h6, h7, h8⟩
 ·have hx : x.rows = [] := List.eq_nil_of_length_eq_zero (by omega)
  have hy : rows2 = [] := List.eq_nil_of_length_eq_zero (by omega)
  refine ⟨v', w', _, hrun, hR.apd_fin (v' := v') (fp' := []) ht rfl (fun n hn => ⟨Nat.le_of_lt (hst n hn), fun e => by have := hst n hn; simp only at e; omega⟩) hs.cons m2' w'.heap.size (Or.inr (Nat.le_refl _)) (fun _ _ _ => rfl) (Nat.le_refl _) hn0 List.nodup_nil (by simp) (by simp) fun A' _ => ?_, by simp [zac], rfl, rfl, Bk.refl _ _⟩
  exact ⟨none, 0, by rw [h1, hx, hy]; rfl, by simp [hx, hy], by omega, Or.inl ⟨rfl, rfl, by simp [hx, hy], rfl⟩⟩
 ·have hnodup : (b :: (if dp = true then fps ++ fps2 else [])).Nodup := by
   refine List.nodup_cons.2 ⟨fun hm => ?_, ?_⟩
   ·split at hm
    ·rcases List.mem_append.1 hm with hm | hm
     ·rcases h7 with h7 | h7
      ·exact ht.topfp b h7 hm
      ·have := (ht.bx b (Or.inr hm)).2.2.1; omega
     ·obtain ⟨p, hcc, hm2⟩ := m2' b hm
      obtain ⟨he2, ho2, hne⟩ := hs.cons p hcc
      rcases h7 with h7 | h7
      ·exact (ht.bx b (Or.inl h7)).2.2.2 p.1 hne (hcO p hcc) hm2
      ·have := (hR.evs p.1 p.2 he2 ho2).lt b hm2; omega
    ·simp at hm
   ·split
    ·refine List.nodup_append.2 ⟨ht.nodup, nd2, fun c hc d hd hcd => ?_⟩
     subst hcd
     obtain ⟨p, hcc, hm2⟩ := m2' c hd
     obtain ⟨he2, ho2, hne⟩ := hs.cons p hcc
     exact (ht.bx c (Or.inr hc)).2.2.2 p.1 hne (hcO p hcc) hm2
    ·exact List.nodup_nil
  have hfix' : ∀ c, Fix σ g w c -> w'.heap[c]? = w.heap[c]? := fun c hf => h8 c hf.2.2.1 fun hcb => by
   subst hcb
   rcases h7 with h7 | h7
   ·exact ht.fix c hf h7
   ·have := hf.2.2.1; omega
  have hcell : ∀ j u, (vs ++ news)[j]? = some u -> cells[0 + j]? = some u := fun j u hu => by
   rw [<- h6, List.getElem?_take] at hu
   split at hu
   ·simpa using hu
   ·cases hu
  have hlens : lens x.sz (x.rows ++ rows2) := fun r hr => by
   rcases List.mem_append.1 hr with hr | hr
   ·exact ht.lens r hr
   ·exact l2 r hr
  refine ⟨v', w', _, hrun, hR.apd_fin (v' := v') (fp' := b :: (if dp = true then fps ++ fps2 else [])) ht rfl (fun n hn => ⟨Nat.le_of_lt (hst n hn), fun e => by have := hst n hn; simp only at e; omega⟩) hs.cons m2' b h7 h8 hap.size hn0 hnodup (fun c hc => ?_) (fun c hc => by simpa using hc.symm) fun A' hA => ?_, by simp [zac], rfl, rfl, hbel b h7 h8⟩
  ·rcases List.mem_cons.1 hc with hc | hc
   ·exact Or.inl hc
   ·split at hc
    ·exact Or.inr (List.mem_append.1 hc)
    ·simp at hc
  ·refine ⟨_, cap, by rw [h1]; simp, by simpa using h2, h3, Or.inr ⟨b, cells, ty', _, rfl, rfl, h4, h5, ?_⟩⟩
   by_cases hd : dp = true
   ·obtain ⟨d1, d2⟩ := hdp hd
    simp only [hd, if_true]
    have ha : zav w' (x.rows ++ rows2).flatten (vs ++ news) (fps ++ fps2) := by
     rw [List.flatten_append]
     refine ((ht.own d1).append (o2 d2)).keep fun c hc => ?_
     have hin : c ∈ (if dp = true then fps ++ fps2 else []) := by rw [if_pos hd]; exact hc
     have hcb : c ≠ b := fun hcb => (List.nodup_cons.1 hnodup).1 (hcb ▸ hin)
     rcases List.mem_append.1 hc with hc | hc
     ·exact h8 c (ht.bx c (Or.inr hc)).2.2.1 hcb
     ·obtain ⟨p, hcc, hm2⟩ := m2' c hc
      exact h8 c ((hR.evs p.1 p.2 (hs.cons p hcc).1 (hs.cons p hcc).2.1).lt c hm2) hcb
    exact zag.of_vals hlens ha hcell
   ·simp only [hd, Bool.false_eq_true, if_false]
    refine ⟨by first | rfl | trivial, ?_⟩
    have ha : zad w' A' (x.rows ++ rows2).flatten (vs ++ news) := by
     rw [List.flatten_append]
     exact (zad.keep hfix' hA _ _ ht.rep).append (zad.keep hfix' hA _ _ r2)
    refine zak.of_vals hlens ha fun j u hu => ?_
    have := hcell j u hu
    simpa [World.cell?, h4] using this
end Go.Proofs.YtaaniggpnljckaaGreat
namespace Go.Proofs.YtaaniggpnljckaaGreat
set_option linter.unusedSimpArgs false
set_option linter.unusedVariables false
set_option linter.unusedSectionVars false
set_option maxRecDepth 4000
open Go.RowKit
variable {P : Program}
def apT (P : Program) (t : TypeId) (sz : Nat) : Prop := ∃ el bytes z, elT P t = some el /\ zbc P el = some sz /\ zcu P el = some bytes /\ bytes <= 16384 /\ zcs P el = some z /\ z.length = sz
theorem zdn {t el : TypeId} (h : elT P t = some el) : P.underlying t = some (.slice el) := by
 unfold elT at h
 split at h
 ·rename_i e hu; cases h; exact hu
 ·cases h
theorem zns {t el : TypeId} {sz bytes : Nat} {z : List C} (h1 : elT P t = some el) (h2 : zbc P el = some sz) (h3 : zcu P el = some bytes) (h4 : bytes <= 16384) (h5 : zcs P el = some z) (h6 : z.length = sz) : apT P t sz := ⟨el, bytes, z, h1, h2, h3, h4, h5, h6⟩
theorem zer {o : Oper} {σ : St} {s y : Operand} {t : TypeId} {e gn : Nat} {x : Ev} {cons : List (Nat × Ev)} {rows2 : List (List T)} {dp dp2 : Bool} (ho : o.op = .call ⟨.builtin .append, #[s, y], #[t, t]⟩)
  (H : ∀ n0 N g a w, Rel n0 N σ g a w -> (∃ vs fps top, Tgt n0 σ g w e x (a.eval s) vs fps top) /\ Src σ g w e cons x.sz rows2 dp2 (a.eval y)) (hst : ∀ n, σ.has e n -> n < gn) (hdp : dp = true -> x.deep = true /\ dp2 = true) (hT : apT P t x.sz) (hb : x.rows.length + rows2.length <= 4294967296) :
  zae P o σ ((σ.apd e cons ⟨dp, x.sz, x.rows ++ rows2, gn, true⟩).put o.dst (.one (.ow e gn))) := by
 intro n0 N g a w hR hn hdN
 obtain ⟨⟨vs, fps, top, hT1⟩, hS⟩ := H n0 N g a w hR
 obtain ⟨el, bytes, z, t1, t2, t3, t4, t5, t6⟩ := hT
 obtain ⟨v', w', g', hrun, hR', hv', hA, hA2, hbel⟩ := hR.append hn hT1 hst hS hdp t o.type el bytes (zdn t1) t2 t3 z t5 t6 hb t4
 have hrun' : (execOp a.eval o).run P w = .ok (.value v') w' := by
  unfold execOp
  simp only [ho]
  simp [resolve, invoke, builtin, hrun]
 unfold Oper.wp
 rw [hrun']
 refine ⟨g', hR'.put o.dst (x := .one (.ow e gn)) ⟨hv', ⟨dp, x.sz, x.rows ++ rows2, gn, true⟩, by simp [St.apd, zac], Nat.le_refl _⟩ hdN, hbel, hA, hA2⟩
def V.rd : V -> V
 | .one (.rn x) => .one (.t x)
 | v => v
theorem rd_vr {σ : St} {g : Gh} {w : World} {x : V} {v : Value} (h : VR σ g w x v) : VR σ g w x.rd v := by
 unfold V.rd
 split
 ·exact zai.keep (fun _ _ => rfl) (fun _ hb => hb.1) _ v h
 ·exact h
theorem qcz {x : V} {e g : Nat} (h : x.rd = .one (.ow e g)) : x = .one (.ow e g) := by
 unfold V.rd at h
 split at h
 ·cases h
 ·exact h
attribute [go_sem] V.rd
theorem qea {σ : St} {e : Nat} {x : Ev} (h : σ.ev e = some x) : ∀ n, σ.has e n -> n < x.gen + 1 := fun n hn => by
 obtain ⟨y, hy, hl⟩ := hn
 rw [h, Option.some.injEq] at hy
 subst hy
 omega
theorem zkf {σ : St} {e : Nat} (h : σ.ev e = none) : ∀ n, σ.has e n -> n < 0 := fun n hn => by
 obtain ⟨y, hy, _⟩ := hn
 rw [h] at hy; cases hy
section
variable {ks : List Fr} {Q : Exit -> St -> Prop} {σ : St} {ops : Array Oper} {os : List Oper} {ty : TypeId} {ps : String} {af : Array Edge} {d : Nat} {s y : Operand} {t : TypeId}
theorem qd4 {e e2 gn gn2 sz sz2 : Nat} {dp dp2 : Bool} {rows rows2 : List (List T)} (h : σ.get P t s = .one (.ow e gn) /\ σ.get P t y = .one (.ow e2 gn2) /\ σ.ev e = some ⟨dp, sz, rows, gn, true⟩ /\ σ.ev e2 = some ⟨dp2, sz2, rows2, gn2, true⟩ /\ e2 ≠ e /\ sz2 = sz) (hT : apT P t sz) (hb : rows.length + rows2.length <= 4294967296) : zae P ⟨some d, .call ⟨.builtin .append, #[s, y], #[t, t]⟩, ty, ps, af, none⟩ σ ((σ.apd e [(e2, ⟨dp2, sz2, rows2, gn2, true⟩)] ⟨dp && dp2, sz, rows ++ rows2, gn + 1, true⟩).put (some d) (.one (.ow e (gn + 1)))) := by
 obtain ⟨h1, h2, h3, h4, h5, rfl⟩ := h
 refine zer (o := ⟨some d, _, ty, ps, af, none⟩) (x := ⟨dp, sz2, rows, gn, true⟩) (gn := gn + 1) (dp := dp && dp2) (dp2 := dp2) rfl (fun n0 N g a w hR => ?_) (qea h3) (fun h => by simpa using h) hT hb
 have v1 := hR.get P t s
 have v2 := hR.get P t y
 rw [h1] at v1
 rw [h2] at v2
 rw [v1.1, v2.1]
 obtain ⟨vs, fps, top, hh⟩ := hR.tgt h3 rfl
 exact ⟨⟨vs, fps, top, hh⟩, Src.own hR h4 rfl h5⟩
theorem qeg {e gn sz : Nat} {dp : Bool} {rows rows2 : List (List T)} (dp2 : Bool) (h : σ.get P t s = .one (.ow e gn) /\ (σ.get P t y).rd = .one (.t (.sl sz rows2)) /\ σ.ev e = some ⟨dp, sz, rows, gn, true⟩) (hf : dp2 = true -> ∀ c ∈ rows2.flatten, c.flat = true) (hT : apT P t sz) (hb : rows.length + rows2.length <= 4294967296) : zae P ⟨some d, .call ⟨.builtin .append, #[s, y], #[t, t]⟩, ty, ps, af, none⟩ σ ((σ.apd e [] ⟨dp && dp2, sz, rows ++ rows2, gn + 1, true⟩).put (some d) (.one (.ow e (gn + 1)))) := by
 obtain ⟨h1, h2, h3⟩ := h
 refine zer (o := ⟨some d, _, ty, ps, af, none⟩) (x := ⟨dp, sz, rows, gn, true⟩) (gn := gn + 1) (dp := dp && dp2) (dp2 := dp2) rfl (fun n0 N g a w hR => ?_) (qea h3) (fun h => by simpa using h) hT hb
 have v1 := hR.get P t s
 have v2 := rd_vr (hR.get P t y)
 rw [h1] at v1
 rw [h2] at v2
 rw [v1.1]
 obtain ⟨vs, fps, top, hh⟩ := hR.tgt h3 rfl
 exact ⟨⟨vs, fps, top, hh⟩, Src.rd hR e v2 hf⟩
theorem qex {z e2 sz gn2 : Nat} {dp2 : Bool} {rows2 : List (List T)} (h : σ.get P t s = .one (.nl z) /\ σ.get P t y = .one (.ow e2 gn2) /\ σ.ev (d * 32) = none /\ σ.ev e2 = some ⟨dp2, sz, rows2, gn2, true⟩ /\ e2 ≠ d * 32) (hT : apT P t sz) (hb : rows2.length <= 4294967296) : zae P ⟨some d, .call ⟨.builtin .append, #[s, y], #[t, t]⟩, ty, ps, af, none⟩ σ ((σ.apd (d * 32) [(e2, ⟨dp2, sz, rows2, gn2, true⟩)] ⟨dp2, sz, rows2, 0, true⟩).put (some d) (.one (.ow (d * 32) 0))) := by
 obtain ⟨h1, h2, h3, h4, h5⟩ := h
 refine zer (o := ⟨some d, _, ty, ps, af, none⟩) (x := ⟨true, sz, [], 0, true⟩) (gn := 0) (rows2 := rows2) (dp := dp2) (dp2 := dp2) rfl (fun n0 N g a w hR => ?_) (zkf h3) (fun h => ⟨rfl, h⟩) hT (by simpa using hb)
 have v1 := hR.get P t s
 have v2 := hR.get P t y
 rw [h1] at v1
 rw [h2] at v2
 rw [show a.eval s = .slice none 0 0 from v1, v2.1]
 exact ⟨⟨[], [], none, Tgt.nil _ _⟩, Src.own hR h4 rfl h5⟩
theorem qd3 {z sz : Nat} {rows2 : List (List T)} (dp2 : Bool) (h : σ.get P t s = .one (.nl z) /\ (σ.get P t y).rd = .one (.t (.sl sz rows2)) /\ σ.ev (d * 32) = none) (hf : dp2 = true -> ∀ c ∈ rows2.flatten, c.flat = true) (hT : apT P t sz) (hb : rows2.length <= 4294967296) : zae P ⟨some d, .call ⟨.builtin .append, #[s, y], #[t, t]⟩, ty, ps, af, none⟩ σ ((σ.apd (d * 32) [] ⟨dp2, sz, rows2, 0, true⟩).put (some d) (.one (.ow (d * 32) 0))) := by
 obtain ⟨h1, h2, h3⟩ := h
 refine zer (o := ⟨some d, _, ty, ps, af, none⟩) (x := ⟨true, sz, [], 0, true⟩) (gn := 0) (rows2 := rows2) (dp := dp2) (dp2 := dp2) rfl (fun n0 N g a w hR => ?_) (zkf h3) (fun h => ⟨rfl, h⟩) hT (by simpa using hb)
 have v1 := hR.get P t s
 have v2 := rd_vr (hR.get P t y)
 rw [h1] at v1
 rw [h2] at v2
 rw [show a.eval s = .slice none 0 0 from v1]
 exact ⟨⟨[], [], none, Tgt.nil _ _⟩, Src.rd hR _ v2 hf⟩
end
theorem Rel.newown {n0 : Nat -> Prop} {N : Nat} {σ : St} {g : Gh} {a : Act} {w : World} (hR : Rel n0 N σ g a w) (hn0 : LtK n0 w) {e : Nat} (he : σ.ev e = none) {cons : List (Nat × Ev)} (hc : ∀ p ∈ cons, σ.ev p.1 = some p.2 /\ p.2.on = true /\ p.1 ≠ e)
  {sz : Nat} {rows : List (List T)} {vs : List Value} (hl : lens sz rows) {dp : Bool} (hr : dp = false -> zad w (Fix σ g w) rows.flatten vs) {fps : List Nat} (ho : dp = true -> zav w rows.flatten vs fps) (hd : dp = false -> fps = []) (hnd : fps.Nodup) (hm : ∀ b ∈ fps, ∃ p ∈ cons, b ∈ g.φ p.1)
  (cells : Array Value) (ty : TypeId) (cap : Nat) (hcs : cells.size = cap * sz) (hcap : rows.length <= cap) (hcm : cap <= zds) (hpre : cells.toList.take (rows.length * sz) = vs) :
  ∃ g', Rel n0 N (σ.apd e cons ⟨dp, sz, rows, 0, true⟩) g' a (w.alloc (.cells cells ty)) /\ .slice (some ⟨w.heap.size, 0, none⟩) rows.length cap = g'.ψ e 0 /\ g'.A0 = g.A0 /\ g'.R0 = g.R0 := by
 have ht : Tgt n0 σ g w e ⟨true, sz, [], 0, true⟩ (.slice none 0 0) [] [] none := Tgt.nil _ _
 have hlt : ∀ b ∈ fps, b < w.heap.size := fun b hb => by
  obtain ⟨p, hcc, hm2⟩ := hm b hb
  exact (hR.evs p.1 p.2 (hc p hcc).1 (hc p hcc).2.1).lt b hm2
 refine ⟨_, hR.apd_fin (v' := .slice (some ⟨w.heap.size, 0, none⟩) rows.length cap) (fp' := w.heap.size :: fps) ht rfl (fun n hn => absurd (zkf he n hn) (by omega)) hc hm w.heap.size (Or.inr (Nat.le_refl _)) (fun k hk _ => Below.heap_alloc w _ k hk) (by simp) hn0 (List.nodup_cons.2 ⟨fun h => by have := hlt _ h; omega, hnd⟩) (fun b hb => ?_) (fun b hb => by simpa using hb.symm) fun A' hA => ?_, by simp [zac], rfl, rfl⟩
 ·rcases List.mem_cons.1 hb with hb | hb
  ·exact Or.inl hb
  ·exact Or.inr (Or.inr hb)
 ·refine ⟨_, cap, rfl, hcap, hcm, Or.inr ⟨w.heap.size, cells, ty, fps, rfl, rfl, heap_alloc_new _ _, hcs, ?_⟩⟩
  have hcell : ∀ j u, vs[j]? = some u -> cells[0 + j]? = some u := fun j u hu => by
   rw [<- hpre, List.getElem?_take] at hu
   split at hu
   ·simpa using hu
   ·cases hu
  by_cases hdd : dp = true
  ·simp only [hdd, if_true]
   exact zag.of_vals hl ((ho hdd).keep fun b hb => Below.heap_alloc w _ b (hlt b hb)) hcell
  ·simp only [hdd, Bool.false_eq_true, if_false]
   refine ⟨hd (by simpa using hdd), zak.of_vals hl (zad.keep (fun b hf => Below.heap_alloc w _ b hf.2.2.1) hA _ _ (hr (by simpa using hdd))) fun j u hu => ?_⟩
   have := hcell j u hu
   have hnew : (w.alloc (.cells cells ty)).heap[w.heap.size]? = some (.cells cells ty (0, 0)) := heap_alloc_new _ _
   simp only [World.cell?, hnew]
   simpa using this
end Go.Proofs.YtaaniggpnljckaaGreat
