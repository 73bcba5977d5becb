/-
  The walk over plain data is sound: pieces of code, loops, functions, calls.
  Conditions: none.
-/
import Derived.Test.YtgfjbbbkploonaaSxH
namespace Go.Proofs.Ytgfjbbbkploonaa
set_option linter.unusedSimpArgs false
set_option linter.unusedVariables false
open Go.RowKit
variable {P : Program}

/-- Every operation's slot is one of N. -/
def dstOk (N : Nat) : Code → Bool
  | .region _ ops _ => ops.all fun o => match o.dst with | some d => decide (d < N) | none => true
  | .seq a b => dstOk N a && dstOk N b
  | .cond _ a b => dstOk N a && dstOk N b
  | .block _ b => dstOk N b
  | .loop b => dstOk N b
  | _ => true

theorem oper_mono {o : Oper} {a : Act} {w : World} {K K' : Act → World → Prop} {Q : Exit → Act → World → Prop} (h : ∀ a w, K a w → K' a w) (hh : o.wp P a w K (fun _ _ _ => False)) : o.wp P a w K' Q := by
  unfold Oper.wp at *
  generalize (execOp a.eval o).run P w = r at *
  cases r with
  | ok n w' =>
    cases n <;> simp only [Oper.upon] at hh ⊢ <;>
      first
        | exact h _ _ hh
        | exact Calls.mono hh (fun e w'' he => by cases e with
            | returned v => exact h _ _ he
            | panicked c => exact he.elim
            | outgrown => obtain ⟨_, _, hx⟩ := he; exact hx.elim)
        | exact Rows.mono hh (fun _ _ he => h _ _ he)
  | halt x w' => cases x <;> simp only [Oper.upon] at hh ⊢ <;> exact hh.elim

theorem execOp1_sound {o : Oper} {σ : St} {K : St → Prop} (h : execOp1 P o σ K) : ∃ σ', StepSem P o σ σ' ∧ K σ' := by
  unfold execOp1 at h
  split at h
  · exact h
  · split at h
    · exact ⟨_, st_sound ‹_› h.1, h.2⟩
    · exact h.elim

/-- What holds at the end of a piece. -/
def Ends (n0 : Nat → Prop) (N : Nat) (w0 : World) (A0 : (Nat → Prop) × RP) (Q : Exit → St → Prop) (e : Exit) (a : Act) (w : World) : Prop := ∃ σ g, Q e σ ∧ Rel n0 N σ g a w ∧ LtK n0 w ∧ Bk n0 w0 w ∧ (g.A0, g.R0) = A0

theorem put_self {σ : St} {d : Nat} {v : V} (h : σ.sl d = v) : σ.put (some d) v = σ := by
  obtain ⟨sl, bx, ev⟩ := σ
  unfold St.put
  simp only [St.mk.injEq, and_true]
  funext i
  by_cases hi : i = d
  · subst hi; rw [upd_same]; exact h.symm
  · rw [upd_ne _ _ hi]
theorem ops_sound {ops : Array Oper} {K : St → Prop} {n0 : Nat → Prop} {N : Nat} {w0 : World} {A0 : (Nat → Prop) × RP} {R : Exit → Act → World → Prop} (hR : ∀ a w σ g, K σ → Rel n0 N σ g a w → LtK n0 w → Bk n0 w0 w → (g.A0, g.R0) = A0 → R .normal a w) :
    ∀ (k i : Nat), i + k = ops.size → (∀ o ∈ ops.toList, ∀ d, o.dst = some d → d < N) → ∀ (σ : St) (g : Gh) (a : Act) (w : World), execOps P ops (ops.toList.drop i) σ K → Rel n0 N σ g a w → LtK n0 w → Bk n0 w0 w → (g.A0, g.R0) = A0 → wpOps P ops R (List.range' i k) a w
  | 0, i, hi, hd, σ, g, a, w, h, hr, hn, hb, hA => by
    have : ops.toList.drop i = [] := List.drop_of_length_le (by simp; omega)
    rw [this] at h
    exact hR a w σ g h hr hn hb hA
  | k + 1, i, hi, hd, σ, g, a, w, h, hr, hn, hb, hA => by
    have hlt : i < ops.size := by omega
    have hcons : ops.toList.drop i = ops[i] :: ops.toList.drop (i + 1) := by
      rw [List.drop_eq_getElem_cons (by simpa using hlt)]; rfl
    rw [hcons] at h
    rw [show List.range' i (k + 1) = i :: List.range' (i + 1) k from rfl, wpOps_cons]
    have ho : ops[i]? = some ops[i] := by simp [hlt]
    have hdi : ∀ d, ops[i].dst = some d → d < N := hd _ (by simp)
    have next : ∀ σ' a' w', (∃ g', Rel n0 N σ' g' a' w' ∧ Bk n0 w w' ∧ g'.A0 = g.A0 ∧ g'.R0 = g.R0) → execOps P ops (ops.toList.drop (i + 1)) σ' K → wpOps P ops R (List.range' (i + 1) k) a' w' := by
      rintro σ' a' w' ⟨g', k1, k2, k3, k4⟩ hK
      exact ops_sound hR k (i + 1) (by omega) hd σ' g' a' w' hK k1 (hn.mono k2.size) (hb.trans k2) (by rw [k3, k4]; exact hA)
    have run : ∀ σ0, σ0 = σ → execOp1 P ops[i] σ0 (fun σ' => execOps P ops (ops.toList.drop (i + 1)) σ' K) → ops[i].wp P a w (wpOps P ops R (List.range' (i + 1) k)) R := fun σ0 e0 h1 => by
      subst e0
      obtain ⟨σ', h2, h3⟩ := execOp1_sound h1
      exact oper_mono (fun a' w' hh => next σ' a' w' hh h3) (h2 n0 N g a w hr hn hdi)
    unfold wpOp
    simp only [ho]
    unfold execOps exG at h
    split at h
    · rename_i hg
      have : Region.wanted ops[i] (yielded ops a.tmps) = true := by simp [Region.wanted, hg]
      rw [if_pos this]
      exact Or.inl (run σ rfl h)
    · rename_i j want hg
      split at h
      · rename_i d hdj
        split at h
        · rename_i c hc
          have hv := hr.slots d
          rw [hc] at hv
          simp only [VR, CR, RepV] at hv
          have hy : yielded ops a.tmps j = some c := by
            unfold yielded
            rw [hdj]
            simp only [Option.bind_some]
            cases ht : a.tmps[d]? with
            | none => rw [Array.getD_eq_getD_getElem?, ht] at hv; exact absurd hv (g.R0.nb _ _)
            | some u => rw [Array.getD_eq_getD_getElem?, ht] at hv; simp only [Option.getD_some] at hv; subst hv; rfl
          have hw : Region.wanted ops[i] (yielded ops a.tmps) = (c == want) := by
            unfold Region.wanted
            rw [hg]
            simp only [hy]
            cases c <;> cases want <;> rfl
          rw [hw]
          by_cases hcw : c = want
          · subst hcw
            simp only [beq_self_eq_true, if_true]
            exact Or.inl (run _ (put_self hc) (h.1 rfl))
          · have hne : (c == want) = false := by simpa using hcw
            rw [hne]
            simp only [Bool.false_eq_true, if_false]
            have hnot : c = !want := by cases c <;> cases want <;> simp_all
            have hh := h.2 hnot
            rw [← hnot, put_self hc] at hh
            exact next _ _ _ ⟨g, hr.put _ (x := .tup []) ⟨[], rfl, rfl⟩ hdi, Bk.refl _ _, rfl, rfl⟩ hh
        · rename_i xs hc
          have hv := hr.slots d
          rw [hc] at hv
          obtain ⟨vs, hv, _⟩ := hv
          have hy : yielded ops a.tmps j = none := by
            unfold yielded
            rw [hdj]
            simp only [Option.bind_some]
            cases ht : a.tmps[d]? with
            | none => rfl
            | some u => rw [Array.getD_eq_getD_getElem?, ht] at hv; simp only [Option.getD_some] at hv; subst hv; rfl
          have hw : Region.wanted ops[i] (yielded ops a.tmps) = false := by
            unfold Region.wanted
            rw [hg]
            simp only [hy]
            rfl
          rw [hw]
          simp only [Bool.false_eq_true, if_false]
          exact next _ _ _ ⟨g, hr.put _ (x := .tup []) ⟨[], rfl, rfl⟩ hdi, Bk.refl _ _, rfl, rfl⟩ h
        · exact h.elim
      · exact h.elim

/-- The stages counted anew, and nil slices that are owned from here on. -/
def reGen (σ σ' : St) (g : Gh) : Gh := { g with
  ψ := fun e n => match σ.ev e, σ'.ev e with | some x, some x' => if n = x'.gen then g.ψ e x.gen else g.ψ e n | none, some _ => .slice none 0 0 | _, _ => g.ψ e n
  φ := fun e => match σ.ev e, σ'.ev e with | none, some _ => [] | _, _ => g.φ e }
theorem Rel.weak {n0 : Nat → Prop} {N : Nat} {σ σ' : St} {g : Gh} {a : Act} {w : World} (h : Rel n0 N σ g a w) (k : Weak σ σ') : Rel n0 N σ' (reGen σ σ' g) a w := by
  have hb : ∀ b, σ'.bx b ≠ none → σ.bx b ≠ none := fun b hb => by
    obtain ⟨cs, hc⟩ := Option.ne_none_iff_exists'.1 hb
    obtain ⟨cs0, h1, _⟩ := k.bx b cs hc
    rw [h1]; simp
  have hφ : ∀ e x x', σ.ev e = some x → σ'.ev e = some x' → (reGen σ σ' g).φ e = g.φ e := fun e x x' h1 h2 => by
    simp [reGen, h1, h2]
  have hφn : ∀ e x', σ.ev e = none → σ'.ev e = some x' → (reGen σ σ' g).φ e = [] := fun e x' h1 h2 => by
    simp [reGen, h1, h2]
  have hψn : ∀ e x' n, σ.ev e = none → σ'.ev e = some x' → (reGen σ σ' g).ψ e n = .slice none 0 0 := fun e x' n h1 h2 => by
    simp [reGen, h1, h2]
  have hon : ∀ e, σ'.On e → (σ.On e ∧ (reGen σ σ' g).φ e = g.φ e) ∨ (reGen σ σ' g).φ e = [] := fun e he => by
    obtain ⟨x, hx, ho⟩ := he
    rcases k.ev e x hx with ⟨x0, h1, h2⟩ | ⟨h1, h2, _⟩
    · exact Or.inl ⟨⟨x0, h1, by rw [h2] at ho; exact ho⟩, hφ e x0 x h1 hx⟩
    · exact Or.inr (hφn e x h1 hx)
  have hin : ∀ e, σ'.On e → ∀ b ∈ (reGen σ σ' g).φ e, σ.On e ∧ b ∈ g.φ e := fun e he b hb => by
    rcases hon e he with ⟨h1, h2⟩ | h1
    · exact ⟨h1, h2 ▸ hb⟩
    · rw [h1] at hb; simp at hb
  have hf : ∀ b, Fix σ g w b → Fix σ' (reGen σ σ' g) w b := fun b hf => ⟨fun j hj => hf.1 j (hb j hj), fun e x hee ho hh => by
    rcases hon e ⟨x, hee, ho⟩ with ⟨⟨x0, h1, h2⟩, h3⟩ | h3
    · rw [h3] at hh; exact hf.2.1 e x0 h1 h2 hh
    · rw [h3] at hh; exact absurd hh (by simp), hf.2.2⟩
  have hsame : ∀ b, Fix σ g w b → w.heap[b]? = w.heap[b]? := fun _ _ => rfl
  have hψ : ∀ e x x', σ.ev e = some x → σ'.ev e = some x' → (reGen σ σ' g).ψ e x'.gen = g.ψ e x.gen := fun e x x' h1 h2 => by
    simp [reGen, h1, h2]
  have cr : ∀ c c' v, CW σ σ' c c' → CR σ g w c v → CR σ' (reGen σ σ' g) w c' v := by
    intro c c' v hw hc
    unfold CW at hw
    split at hw
    · trivial
    · subst hw; exact RepV.keep hsame hf _ v hc
    · exact hc
    · rename_i s e' s'
      obtain ⟨h1, h2⟩ := hw
      unfold genOf at h2
      obtain ⟨x', hx', rfl⟩ := Option.map_eq_some_iff.1 h2
      exact ⟨by rw [hψn e' x' _ h1 hx']; exact hc, x', hx', Nat.le_refl _⟩
    · rename_i e s e' s'
      obtain ⟨rfl, h1, h2⟩ := hw
      unfold genOf at h1 h2
      obtain ⟨x, hx, rfl⟩ := Option.map_eq_some_iff.1 h1
      obtain ⟨x', hx', rfl⟩ := Option.map_eq_some_iff.1 h2
      exact ⟨by rw [hψ e x x' hx hx']; exact hc.1, x', hx', Nat.le_refl _⟩
    · obtain ⟨x, hx, rfl, ho, rfl⟩ := onSome_ex hw
      have := (h.offs _ x hx ho).1
      rw [← hc.1] at this
      exact RepV.keep hsame hf _ v this
    · obtain ⟨rfl, rfl, h3⟩ := hw; exact ⟨hc.1, h3⟩
    · obtain ⟨rfl, rfl⟩ := hw
      obtain ⟨b, q, h1, h2, h3⟩ := hc
      exact ⟨b, q, h1, hf b h2, RepAt.keep hsame hf b rfl q _ h3⟩
    · obtain ⟨rfl, rfl, h3⟩ := hw; exact ⟨hc.1, allBx_mem h3⟩
    · subst hw; exact hc
    · exact hw.elim
  have crs : ∀ cs cs' vs, CWs σ σ' cs cs' → CRs σ g w cs vs → CRs σ' (reGen σ σ' g) w cs' vs := by
    intro cs
    induction cs with
    | nil => intro cs' vs hw hc; cases cs' with
      | nil => exact hc
      | cons c cs' => exact hw.elim
    | cons c cs ih =>
      intro cs' vs hw hc
      cases cs' with
      | nil => exact hw.elim
      | cons c' cs' =>
        obtain ⟨v, vs', rfl, h1, h2⟩ := hc
        exact ⟨v, vs', rfl, cr c c' v hw.1 h1, ih cs' vs' hw.2 h2⟩
  refine ⟨h.defers, h.size, h.anew, fun i => ?_, fun b cs hbb => ?_, fun b hbb => h.base b (hb b hbb), fun b b' h1 h2 => h.inj b b' (hb b h1) (hb b' h2), fun e x hx ho => ?_, fun e x hx ho => ?_, fun e n => ?_, fun e hx b hb' => h.ebase e (hin e hx b hb').1 b (hin e hx b hb').2, fun e hx b hb' => ?_, fun e hx => ?_, fun e e' h1 h2 hne b hb1 hb2 => h.apart e e' (hin e h1 b hb1).1 (hin e' h2 b hb2).1 hne b (hin e h1 b hb1).2 (hin e' h2 b hb2).2, fun e j h1 h2 hm => h.ebx e j (hin e h1 _ hm).1 (hb j h2) (hin e h1 _ hm).2⟩
  · have hw := k.sl i
    have hv := h.slots i
    generalize σ.sl i = x at hw hv
    generalize σ'.sl i = y at hw
    cases y with
    | one c' =>
      cases x with
      | one c => exact cr c c' _ (by cases c' <;> first | exact hw | trivial) hv
      | agg cs => cases c' <;> first | trivial | exact hw.elim
      | tup xs => cases c' <;> first | trivial | exact hw.elim
    | agg cs' =>
      cases x with
      | one c => exact hw.elim
      | agg cs => obtain ⟨u, u1, u2⟩ := hv; exact ⟨u, u1, crs _ _ _ hw u2⟩
      | tup xs => exact hw.elim
    | tup xs' => cases x <;> exact hw.elim
  · obtain ⟨cs0, k1, k2⟩ := k.bx b cs hbb
    obtain ⟨vs, ty, j1, j2⟩ := h.boxes b cs0 k1
    exact ⟨vs, ty, j1, crs _ _ _ k2 j2⟩
  · rcases k.ev e x hx with ⟨x0, h1, h2⟩ | ⟨h1, h2, _⟩
    · have ho0 : x0.on = true := by rw [h2] at ho; exact ho
      obtain ⟨ao, cap, e1, e2, e3, e4⟩ := h.evs e x0 h1 ho0
      rw [hψ e x0 x h1 hx, hφ e x0 x h1 hx]
      rw [h2]
      refine ⟨ao, cap, e1, e2, e3, ?_⟩
      rcases e4 with e4 | ⟨b, cells, ty, fps, k1, k2, k3, k4, k5⟩
      · exact Or.inl e4
      · refine Or.inr ⟨b, cells, ty, fps, k1, k2, k3, k4, ?_⟩
        split at k5
        · rw [if_pos ‹_›]; exact k5
        · rw [if_neg ‹_›]; exact ⟨k5.1, RepRows.keep hsame hf b rfl 0 x0.sz x0.rows k5.2⟩
    · rw [hψn e x _ h1 hx, hφn e x h1 hx]
      exact ⟨none, 0, by rw [h2]; rfl, by rw [h2]; simp, by simp, Or.inl ⟨rfl, rfl, h2, rfl⟩⟩
  · rcases k.ev e x hx with ⟨x0, h1, h2⟩ | ⟨_, _, h3⟩
    · have ho0 : x0.on = false := by rw [h2] at ho; exact ho
      obtain ⟨j1, j2⟩ := h.offs e x0 h1 ho0
      rw [hψ e x0 x h1 hx, h2]
      exact ⟨RepV.keep hsame hf _ _ j1, j2⟩
    · rw [h3] at ho; cases ho
  · unfold reGen
    simp only
    split
    · split
      · exact h.slc _ _
      · exact h.slc _ _
    · exact ⟨_, _, _, rfl⟩
    · exact h.slc _ _
  · rcases hon e hx with ⟨h1, h2⟩ | h1
    · rw [h2] at hb'; exact h.etop e h1 b hb'
    · rw [h1] at hb'; cases hb'
  · rcases hon e hx with ⟨h1, h2⟩ | h1
    · rw [h2]; exact h.nodup e h1
    · rw [h1]; exact List.nodup_nil
theorem Weak.wk {σ σ' : St} (k : Weak σ σ') : Wk σ σ' := fun n0 N g a w hR => ⟨reGen σ σ' g, hR.weak k, rfl, rfl⟩

/-- A loop whose rounds lower a number that stands in no slot. -/
theorem wp_loopI {c : Code} {Q : Exit → Act → World → Prop} (I : Nat → Act → World → Prop) (round : ∀ n a w, I n a w → c.wp P (Exit.then (fun a' w' => ∃ m, m < n ∧ I m a' w') Q) a w) {a : Act} {w : World} {n : Nat} (h₀ : I n a w) : (Code.loop c).wp P Q a w := by
  intro b k cs
  have key : ∀ n a w, I n a w → ∃ e a' w', Q e a' w' ∧ Arrives P (lone (b.at a (.code c :: .inLoop c :: k)) cs w) b k cs e a' w' := by
    intro n
    induction n using Nat.strongRecOn with
    | _ n ih =>
      intro a w hI
      obtain ⟨e, a₁, w₁, hq, harr⟩ := round n a w hI b (.inLoop c :: k) cs
      cases e with
      | normal =>
        obtain ⟨m, hlt, hI₁⟩ := hq
        obtain ⟨e₂, a₂, w₂, hq₂, harr₂⟩ := ih m hlt a₁ w₁ hI₁
        exact ⟨e₂, a₂, w₂, hq₂, .of_steps (Steps.trans harr (.one step_inLoop)) harr₂⟩
      | exit id => exact ⟨_, a₁, w₁, hq, .pass (x := .inLoop c) rfl (fun _ _ => .inl (by simp)) harr⟩
      | goto l => exact ⟨_, a₁, w₁, hq, .pass (x := .inLoop c) rfl (fun _ _ => .inl (by simp)) harr⟩
      | ret => exact ⟨_, a₁, w₁, hq, .pass (x := .inLoop c) rfl (fun _ _ => .inl (by simp)) harr⟩
      | panic ch => exact ⟨_, a₁, w₁, hq, .pass (x := .inLoop c) rfl (fun _ _ => .inl (by simp)) harr⟩
      | outgrown => exact ⟨_, a₁, w₁, hq, .pass (x := .inLoop c) rfl (fun _ _ => .inl (by simp)) harr⟩
  obtain ⟨e, a', w', hq, harr⟩ := key n a w h₀
  exact ⟨e, a', w', hq, .of_steps (.one step_loop) harr⟩

theorem exec_sound {n0 : Nat → Prop} {N : Nat} {w0 : World} {A0 : (Nat → Prop) × RP} : ∀ (c : Code) (σ : St) (Q : Exit → St → Prop), dstOk N c = true → exec P c σ Q → ∀ (g : Gh) (a : Act) (w : World), Rel n0 N σ g a w → LtK n0 w → Bk n0 w0 w → (g.A0, g.R0) = A0 → c.wp P (Ends n0 N w0 A0 Q) a w
  | .skip, σ, Q, _, h, g, a, w, hr, hn, hb, hA => wp_skip ⟨σ, g, h, hr, hn, hb, hA⟩
  | .ret, σ, Q, _, h, g, a, w, hr, hn, hb, hA => wp_ret ⟨σ, g, h, hr, hn, hb, hA⟩
  | .exit id, σ, Q, _, h, g, a, w, hr, hn, hb, hA => wp_exit ⟨σ, g, h, hr, hn, hb, hA⟩
  | .seq x y, σ, Q, hd, h, g, a, w, hr, hn, hb, hA => by
    simp only [dstOk, Bool.and_eq_true] at hd
    refine wp_seq (wp_mono (exec_sound x σ _ hd.1 h g a w hr hn hb hA) fun e a' w' hq => ?_)
    obtain ⟨σ', g', h1, h2, h3, h4, h5⟩ := hq
    cases e with
    | normal => exact exec_sound y σ' Q hd.2 h1 g' a' w' h2 h3 h4 h5
    | exit i => exact ⟨σ', g', h1, h2, h3, h4, h5⟩
    | goto l => exact ⟨σ', g', h1, h2, h3, h4, h5⟩
    | ret => exact ⟨σ', g', h1, h2, h3, h4, h5⟩
    | panic ch => exact ⟨σ', g', h1, h2, h3, h4, h5⟩
    | outgrown => exact ⟨σ', g', h1, h2, h3, h4, h5⟩
  | .cond c x y, σ, Q, hd, h, g, a, w, hr, hn, hb, hA => by
    simp only [dstOk, Bool.and_eq_true] at hd
    unfold exec at h
    have hv := hr.get P 0 c
    split at h
    · rename_i t hc
      rw [hc] at hv
      simp only [VR, CR, RepV] at hv
      exact wp_cond_split hv (fun ht => exec_sound x σ Q hd.1 (h.1 ht) g a w hr hn hb hA) (fun ht => exec_sound y σ Q hd.2 (h.2 ht) g a w hr hn hb hA)
    · exact h.elim
  | .block id b, σ, Q, hd, h, g, a, w, hr, hn, hb, hA => by
    refine wp_block (wp_mono (exec_sound b σ _ hd h g a w hr hn hb hA) fun e a' w' hq => ?_)
    obtain ⟨σ', g', h1, h2, h3, h4, h5⟩ := hq
    cases e with
    | exit i =>
      simp only [Exit.inBlock]
      simp only at h1
      split at h1
      · rw [if_pos ‹_›]; exact ⟨σ', g', h1, h2, h3, h4, h5⟩
      · rw [if_neg ‹_›]; exact ⟨σ', g', h1, h2, h3, h4, h5⟩
    | normal => exact ⟨σ', g', h1, h2, h3, h4, h5⟩
    | goto l => exact ⟨σ', g', h1, h2, h3, h4, h5⟩
    | ret => exact ⟨σ', g', h1, h2, h3, h4, h5⟩
    | panic ch => exact ⟨σ', g', h1, h2, h3, h4, h5⟩
    | outgrown => exact ⟨σ', g', h1, h2, h3, h4, h5⟩
  | .region id ops false, σ, Q, hd, h, g, a, w, hr, hn, hb, hA => by
    refine wp_region ?_
    have hd' : ∀ o ∈ ops.toList, ∀ d, o.dst = some d → d < N := fun o ho d hdd => by
      simp only [dstOk, Array.all_eq_true_iff_forall_mem] at hd
      have := hd o (by simpa using ho)
      rw [hdd] at this
      simpa using this
    rw [List.range_eq_range']
    exact ops_sound (fun a w σ g h1 h2 h3 h4 h5 => ⟨σ, g, h1, h2, h3, h4, h5⟩) ops.size 0 (by omega) hd' σ g a w (by simpa [exec] using h) hr hn hb hA
  | .loop b, σ, Q, hd, h, g, a, w, hr, hn, hb, hA => by
    unfold exec at h
    obtain ⟨I, ⟨n, σ0, hw0, h0⟩, hround⟩ := h
    refine wp_loopI (fun n a w => ∃ σ1 g1, I n σ1 ∧ Rel n0 N σ1 g1 a w ∧ LtK n0 w ∧ Bk n0 w0 w ∧ (g1.A0, g1.R0) = A0) ?_ (n := n) (by obtain ⟨g0, r1, r2, r3⟩ := hw0 _ _ _ _ _ hr; exact ⟨σ0, g0, h0, r1, hn, hb, by rw [r2, r3]; exact hA⟩)
    rintro n a w ⟨σ1, g1, k1, k2, k3, k4, k5⟩
    refine wp_mono (exec_sound b σ1 _ hd (hround n σ1 k1) g1 a w k2 k3 k4 k5) fun e a' w' hq => ?_
    obtain ⟨σ', g', h1, h2, h3, h4, h5⟩ := hq
    cases e with
    | normal =>
      obtain ⟨m, σ2, hlt, hwk, hI⟩ := h1
      obtain ⟨g2, r1, r2, r3⟩ := hwk _ _ _ _ _ h2
      exact ⟨m, hlt, σ2, g2, hI, r1, h3, h4, by rw [r2, r3]; exact h5⟩
    | exit i => exact ⟨σ', g', h1, h2, h3, h4, h5⟩
    | goto l => exact ⟨σ', g', h1, h2, h3, h4, h5⟩
    | ret => exact ⟨σ', g', h1, h2, h3, h4, h5⟩
    | panic ch => exact ⟨σ', g', h1, h2, h3, h4, h5⟩
    | outgrown => exact ⟨σ', g', h1, h2, h3, h4, h5⟩
  | .region id ops true, σ, Q, hd, h, g, a, w, hr, hn, hb, hA => by
    have hd' : ∀ o ∈ ops, ∀ d, o.dst = some d → d < N := fun o ho d hdd => by
      simp only [dstOk, Array.all_eq_true_iff_forall_mem] at hd
      have := hd o ho
      rw [hdd] at this
      simpa using this
    refine wp_mono (h n0 N g a w hr hn hd') fun e a' w' hq => ?_
    obtain ⟨rfl, σ', g', k1, k2, k3, k4, k5, k6⟩ := hq
    exact ⟨σ', g', k1, k2, k3, hb.trans k4, by rw [k5, k6]; exact hA⟩
  | .rangeFunc .., _, _, _, h, _, _, _, _, _, _, _ => h.elim
  | .scope _, _, _, _, h, _, _, _, _, _, _, _ => h.elim
  | .label _, _, _, _, h, _, _, _, _, _, _, _ => h.elim
  | .goto _, _, _, _, h, _, _, _, _, _, _, _ => h.elim
  | .refuse _, _, _, _, h, _, _, _, _, _, _, _ => h.elim

/-- A loop: what holds of the state at each round's head, and a number that each round lowers. -/
def LoopQ (P : Program) {X : Type} (I : X → St) (Pr : X → Prop) (μ : X → Nat) (x : X) (ks : List Fr) (Q : Exit → St → Prop) (e : Exit) (σ' : St) : Prop := match e with
  | .normal => ∃ x', Pr x' ∧ μ x' < μ x ∧ Wk σ' (I x')
  | e => rt P e ks Q σ'
theorem LoopQ_normal {X : Type} (I : X → St) (Pr : X → Prop) (μ : X → Nat) (x : X) (ks : List Fr) (Q : Exit → St → Prop) (σ : St) : LoopQ P I Pr μ x ks Q .normal σ = ∃ x', Pr x' ∧ μ x' < μ x ∧ Wk σ (I x') := rfl
theorem LoopQ_exit {X : Type} (I : X → St) (Pr : X → Prop) (μ : X → Nat) (x : X) (ks : List Fr) (Q : Exit → St → Prop) (σ : St) (i : Nat) : LoopQ P I Pr μ x ks Q (.exit i) σ = rt P (.exit i) ks Q σ := rfl
theorem LoopQ_ret {X : Type} (I : X → St) (Pr : X → Prop) (μ : X → Nat) (x : X) (ks : List Fr) (Q : Exit → St → Prop) (σ : St) : LoopQ P I Pr μ x ks Q .ret σ = rt P .ret ks Q σ := rfl
theorem execOp1_mono {o : Oper} {σ : St} {K K' : St → Prop} (h : ∀ σ, K σ → K' σ) (hh : execOp1 P o σ K) : execOp1 P o σ K' := by
  unfold execOp1 at *
  split
  · rw [if_pos ‹_›] at hh; obtain ⟨σ', h1, h2⟩ := hh; exact ⟨σ', h1, h _ h2⟩
  · rw [if_neg ‹_›] at hh
    split
    · rename_i hs; rw [hs] at hh; exact ⟨hh.1, h _ hh.2⟩
    · rename_i hs; rw [hs] at hh; exact hh
theorem exG_mono {ops : Array Oper} {o : Oper} {σ : St} {K K' : St → Prop} (h : ∀ σ, K σ → K' σ) (hh : exG P ops o σ K) : exG P ops o σ K' := by
  unfold exG at *
  split
  · rename_i hg; rw [hg] at hh; exact execOp1_mono h hh
  · rename_i j want hg
    rw [hg] at hh
    simp only at hh
    split
    · rename_i d hd
      rw [hd] at hh
      simp only at hh
      split
      · rename_i c hc
        rw [hc] at hh
        exact ⟨fun hcw => execOp1_mono h (hh.1 hcw), fun hcw => h _ (hh.2 hcw)⟩
      · rename_i hc
        rw [hc] at hh
        exact h _ hh
      · rename_i hc hc2
        split at hh
        · exact absurd ‹_› (hc _)
        · exact absurd ‹_› (hc2 _)
        · exact hh
    · rename_i hd; rw [hd] at hh; exact hh
theorem execOps_mono {ops : Array Oper} {K K' : St → Prop} (h : ∀ σ, K σ → K' σ) : ∀ (os : List Oper) (σ : St), execOps P ops os σ K → execOps P ops os σ K'
  | [], σ, hh => h σ hh
  | o :: os, σ, hh => exG_mono (fun σ' h' => execOps_mono h os σ' h') hh
theorem exec_mono : ∀ {c : Code} {σ : St} {Q Q' : Exit → St → Prop}, (∀ e σ, Q e σ → Q' e σ) → exec P c σ Q → exec P c σ Q'
  | .skip, σ, Q, Q', h, hh => h _ _ hh
  | .ret, σ, Q, Q', h, hh => h _ _ hh
  | .exit _, σ, Q, Q', h, hh => h _ _ hh
  | .region _ ops false, σ, Q, Q', h, hh => by unfold exec at *; exact execOps_mono (h .normal) _ _ hh
  | .seq x y, σ, Q, Q', h, hh => by
    unfold exec at *
    refine exec_mono (fun e σ' h' => ?_) hh
    cases e with
    | normal => exact exec_mono h h'
    | exit i => exact h _ _ h'
    | goto l => exact h _ _ h'
    | ret => exact h _ _ h'
    | panic ch => exact h _ _ h'
    | outgrown => exact h _ _ h'
  | .cond c x y, σ, Q, Q', h, hh => by
    unfold exec at *
    split
    · rename_i hc; rw [hc] at hh; exact ⟨fun ht => exec_mono h (hh.1 ht), fun ht => exec_mono h (hh.2 ht)⟩
    · rename_i hc
      split at hh
      · exact absurd ‹_› (hc _)
      · exact hh
  | .block id b, σ, Q, Q', h, hh => by
    unfold exec at *
    refine exec_mono (fun e σ' h' => ?_) hh
    cases e with
    | exit i =>
      simp only at h' ⊢
      split
      · rw [if_pos ‹_›] at h'; exact h _ _ h'
      · rw [if_neg ‹_›] at h'; exact h _ _ h'
    | normal => exact h _ _ h'
    | goto l => exact h _ _ h'
    | ret => exact h _ _ h'
    | panic ch => exact h _ _ h'
    | outgrown => exact h _ _ h'
  | .loop b, σ, Q, Q', h, hh => by
    unfold exec at *
    obtain ⟨I, h0, hr⟩ := hh
    refine ⟨I, h0, fun n σ1 hI => exec_mono (fun e σ' h' => ?_) (hr n σ1 hI)⟩
    cases e with
    | normal => exact h'
    | exit i => exact h _ _ h'
    | goto l => exact h _ _ h'
    | ret => exact h _ _ h'
    | panic ch => exact h _ _ h'
    | outgrown => exact h _ _ h'
  | .region _ ops true, σ, Q, Q', h, hh => DrawSem.mono (h .normal) hh
  | .rangeFunc .., _, _, _, _, hh => hh.elim
  | .scope _, _, _, _, _, hh => hh.elim
  | .label _, _, _, _, _, hh => hh.elim
  | .goto _, _, _, _, _, hh => hh.elim
  | .refuse _, _, _, _, _, hh => hh.elim
theorem loop_rule {b : Code} {σ : St} {ks : List Fr} {Q : Exit → St → Prop} {X : Type} (I : X → St) (Pr : X → Prop) (μ : X → Nat) (x0 : X) (h0 : Wk σ (I x0)) (p0 : Pr x0)
    (hr : ∀ x, Pr x → ex P b [] (LoopQ P I Pr μ x ks Q) (I x)) : ex P (.loop b) ks Q σ := by
  unfold ex exec
  refine ⟨fun n s => ∃ x, Pr x ∧ μ x = n ∧ s = I x, ⟨μ x0, I x0, h0, x0, p0, rfl, rfl⟩, ?_⟩
  rintro n s ⟨x, px, rfl, rfl⟩
  refine exec_mono ?_ (hr x px)
  intro e σ' h
  cases e with
  | normal => obtain ⟨x', h1, h2, h3⟩ := h; exact ⟨μ x', I x', h2, h3, x', h1, rfl, rfl⟩
  | exit i => exact h
  | goto l => exact h
  | ret => exact h
  | panic ch => exact h
  | outgrown => exact h
end Go.Proofs.Ytgfjbbbkploonaa
