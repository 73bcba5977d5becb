import Derived.Test.YtfppgpojemdijaaQ4
import Derived.RangeFuncNested
import Derived.RangeFuncLeaves
import Derived.Test.YtfppgpojemdijaaProg
import Derived.KernelRfl
/-
  The walk over plain data within a round of a range over a function, and behind such a loop.
  Conditions: none.
-/
namespace Go.Proofs.Ytfppgpojemdijaa
set_option linter.unusedSimpArgs false
set_option linter.unusedVariables false
set_option linter.unusedSectionVars false
set_option maxRecDepth 4000
open Go.RowKit
variable {P : Program}
/-- Any function, any depth; in a round or not. -/
abbrev FR (r : Option Nat) : Fence := { Fence.wide with round := r }
theorem callsIn_FR {r : Option Nat} {n : Nat} {f : FuncId} {args : Array Value} {w : World} {R : Ending → World → Prop} : CallsIn (FR r) n P f args w R ↔ Calls P f args w R :=
  (callsIn_wide (n := n) : CallsIn Fence.wide n P f args w R ↔ _)
theorem room_FR {r : Option Nat} (n : Nat) : (FR r).room n := fun d hd => by cases hd
/-- The operation is no defer statement. -/
def Oper.nodef (o : Oper) : Bool := match o.op with | .defer _ => false | _ => true
theorem nodef_ne {o : Oper} (h : Oper.nodef o = true) : ∀ c, o.op ≠ .defer c := fun c hc => by simp [Oper.nodef, hc] at h
theorem put_defers (a : Act) (d : Option Nat) (v : Value) (ds : List Deferred) : ({ a with defers := ds } : Act).put d v = { a.put d v with defers := ds } := by cases d <;> rfl
theorem put_defers' (a : Act) (d : Option Nat) (v : Value) : (a.put d v).defers = a.defers := by cases d <;> rfl
theorem operIn {r : Option Nat} {n : Nat} {o : Oper} {a : Act} {w : World} {K : Act → World → Prop} {ds : List Deferred} {K' : Act → World → Prop} {Q : Exit → Act → World → Prop} (hnd : Oper.nodef o = true) (hK : ∀ a w, K a w → a.defers = []) (h : o.wp P a w K (fun _ _ _ => False))
    (hK' : ∀ v w', K (a.put o.dst v) w' → K' { a.put o.dst v with defers := ds } w') : o.wpIn (FR r) n P { a with defers := ds } w K' Q := by
  unfold Oper.wp at h
  refine ⟨fun _ _ => trivial, ?_⟩
  rw [Oper.semAt_eq _ _ _ (nodef_ne hnd)]
  show o.uponIn (FR r) n P { a with defers := ds } K' Q ((execOp a.eval o).run P w)
  generalize (execOp a.eval o).run P w = x at h
  cases x with
  | ok nx w' =>
    cases nx with
    | value v => show K' _ _; rw [put_defers]; exact hK' v w' h
    | skip => show K' _ _; rw [put_defers]; exact hK' _ w' h
    | defer d => exact absurd (hK _ _ h) (by rw [put_defers']; simp)
    | enter f args =>
      refine ⟨(by intro h; cases h), callsIn_FR.2 (Calls.mono h fun e w'' he => ?_)⟩
      cases e with
      | returned v => show K' _ _; rw [put_defers]; exact hK' v w'' he
      | panicked c => exact he.elim
      | outgrown => obtain ⟨_, _, hx⟩ := he; exact hx.elim
    | row row args =>
      refine ⟨(by intro h; cases h), fun c cs _ => ?_⟩
      obtain ⟨v, w'', h1, h2⟩ := h c cs
      refine ⟨v, w'', ?_, stepsIn_wide.2 h2⟩
      show K' _ _; rw [put_defers]; exact hK' v w'' h1
    | _ => exact (show False from h).elim
  | halt x w' => cases x <;> exact (show False from h).elim
/-- The slots outside D are alike. -/
def Ag (D : Nat → Prop) (a a' : Act) : Prop := ∀ i, ¬ D i → a'.tmps.getD i undef = a.tmps.getD i undef
theorem Ag.refl (D : Nat → Prop) (a : Act) : Ag D a a := fun _ _ => rfl
theorem Ag.put {D : Nat → Prop} {a0 a : Act} (h : Ag D a0 a) {d : Option Nat} (hd : ∀ i, d = some i → D i) (v : Value) : Ag D a0 (a.put d v) := fun i hi => by
  cases d with
  | none => exact h i hi
  | some j =>
    have hij : i ≠ j := fun e => hi (e ▸ hd j rfl)
    rw [show (a.put (some j) v).tmps = a.tmps.setIfInBounds j v from rfl, getD_set_ne' a hij]
    exact h i hi
/-- What holds at the end of a piece that was walked in a round, or with marks. -/
def EndsD (n0 : Nat → Prop) (N : Nat) (w0 : World) (A0 : (Nat → Prop) × RP) (ds : List Deferred) (D : Nat → Prop) (a0 : Act) (Q : Exit → St → Prop) (e : Exit) (a : Act) (w : World) : Prop := ∃ a1, a = { a1 with defers := ds } ∧ Ag D a0 a1 ∧ Ends n0 N w0 A0 Q e a1 w
theorem ops_soundD {ops : Array Oper} {K : St → Prop} {n0 : Nat → Prop} {N : Nat} {w0 : World} {A0 : (Nat → Prop) × RP} {r : Option Nat} {n : Nat} {ds : List Deferred} {D : Nat → Prop} {a0 : Act} {R : Exit → Act → World → Prop}
    (hR : ∀ a w σ g, K σ → Rel n0 N σ g a w → LtK n0 w → Bk n0 w0 w → (g.A0, g.R0) = A0 → Ag D a0 a → R .normal { a with defers := ds } w) :
    ∀ (k i : Nat), i + k = ops.size → (∀ o ∈ ops.toList, Oper.nodef o = true ∧ ∀ d, o.dst = some d → d < N ∧ D d) → ∀ (σ : St) (g : Gh) (a : Act) (w : World), execOps P ops (ops.toList.drop i) σ K → Rel n0 N σ g a w → LtK n0 w → Bk n0 w0 w → (g.A0, g.R0) = A0 → Ag D a0 a → wpOpsIn (FR r) n P ops R (List.range' i k) { a with defers := ds } w
  | 0, i, hi, hd, σ, g, a, w, h, hr, hn, hb, hA, hg => by
    have : ops.toList.drop i = [] := List.drop_of_length_le (by simp; omega)
    rw [this] at h
    exact hR a w σ g h hr hn hb hA hg
  | k + 1, i, hi, hd, σ, g, a, w, h, hr, hn, hb, hA, hg => by
    have hlt : i < ops.size := by omega
    have hcons : ops.toList.drop i = ops[i] :: ops.toList.drop (i + 1) := by
      rw [List.drop_eq_getElem_cons (by simpa using hlt)]; rfl
    rw [hcons] at h
    rw [show List.range' i (k + 1) = i :: List.range' (i + 1) k from rfl]
    have ho : ops[i]? = some ops[i] := by simp [hlt]
    obtain ⟨hnd, hdi⟩ := hd ops[i] (by simp)
    have next : ∀ σ' a' w', (∃ g', Rel n0 N σ' g' a' w' ∧ Bk n0 w w' ∧ g'.A0 = g.A0 ∧ g'.R0 = g.R0) → Ag D a0 a' → execOps P ops (ops.toList.drop (i + 1)) σ' K → wpOpsIn (FR r) n P ops R (List.range' (i + 1) k) { a' with defers := ds } w' := by
      rintro σ' a' w' ⟨g', k1, k2, k3, k4⟩ hg' hK
      exact ops_soundD hR k (i + 1) (by omega) hd σ' g' a' w' hK k1 (hn.mono k2.size) (hb.trans k2) (by rw [k3, k4]; exact hA) hg'
    have run : ∀ σ0, σ0 = σ → execOp1 P ops[i] σ0 (fun σ' => execOps P ops (ops.toList.drop (i + 1)) σ' K) → ops[i].wpIn (FR r) n P { a with defers := ds } w (wpOpsIn (FR r) n P ops R (List.range' (i + 1) k)) R := fun σ0 e0 h1 => by
      subst e0
      exact operIn hnd (fun a' w' ⟨σ', g', h0, hh⟩ => hh.1.defers) (execOp1_sound h1 n0 N g a w hr hn fun d hd => (hdi d hd).1) fun v w' ⟨σ', g', h0, hh⟩ => next σ' _ w' ⟨g', hh⟩ (hg.put (fun d hd => (hdi d hd).2) v) h0
    simp only [wpOpsIn, ho]
    unfold execOps exG at h
    split at h
    · rename_i hg0
      have : Region.wanted ops[i] (yielded ops a.tmps) = true := by simp [Region.wanted, hg0]
      rw [if_pos this]
      exact run σ rfl h
    · rename_i j want hg0
      split at h
      · rename_i d hdj
        split at h
        · rename_i c hc
          have hv := hr.slots d
          rw [hc] at hv
          simp only [VR, CR, RepV] at hv
          have hy : yielded ops a.tmps j = some c := by
            unfold yielded
            rw [hdj]
            simp only [Option.bind_some]
            cases ht : a.tmps[d]? with
            | none => rw [Array.getD_eq_getD_getElem?, ht] at hv; exact absurd hv (g.R0.nb _ _)
            | some u => rw [Array.getD_eq_getD_getElem?, ht] at hv; simp only [Option.getD_some] at hv; subst hv; rfl
          have hw : Region.wanted ops[i] (yielded ops a.tmps) = (c == want) := by
            unfold Region.wanted
            rw [hg0]
            simp only [hy]
            cases c <;> cases want <;> rfl
          rw [hw]
          by_cases hcw : c = want
          · subst hcw
            simp only [beq_self_eq_true, if_true]
            exact run _ (put_self hc) (h.1 rfl)
          · have hne : (c == want) = false := by simpa using hcw
            rw [hne]
            simp only [Bool.false_eq_true, if_false]
            have hnot : c = !want := by cases c <;> cases want <;> simp_all
            have hh := h.2 hnot
            rw [← hnot, put_self hc] at hh
            refine ⟨fun _ _ => trivial, ?_⟩
            rw [put_defers]
            exact next _ _ _ ⟨g, hr.put _ (x := .tup []) ⟨[], rfl, rfl⟩ fun d hd => (hdi d hd).1, Bk.refl _ _, rfl, rfl⟩ (hg.put (fun d hd => (hdi d hd).2) _) hh
        · rename_i xs hc
          have hv := hr.slots d
          rw [hc] at hv
          obtain ⟨vs, hv, _⟩ := hv
          have hy : yielded ops a.tmps j = none := by
            unfold yielded
            rw [hdj]
            simp only [Option.bind_some]
            cases ht : a.tmps[d]? with
            | none => rfl
            | some u => rw [Array.getD_eq_getD_getElem?, ht] at hv; simp only [Option.getD_some] at hv; subst hv; rfl
          have hw : Region.wanted ops[i] (yielded ops a.tmps) = false := by
            unfold Region.wanted
            rw [hg0]
            simp only [hy]
            rfl
          rw [hw]
          simp only [Bool.false_eq_true, if_false]
          refine ⟨fun _ _ => trivial, ?_⟩
          rw [put_defers]
          exact next _ _ _ ⟨g, hr.put _ (x := .tup []) ⟨[], rfl, rfl⟩ fun d hd => (hdi d hd).1, Bk.refl _ _, rfl, rfl⟩ (hg.put (fun d hd => (hdi d hd).2) _) h
        · exact h.elim
      · exact h.elim
/-- A piece that runs in a round, too: no drawn regions, no loops, no defer statements. -/
def plainC : Code → Bool
  | .region _ ops false => ops.all Oper.nodef
  | .seq a b => plainC a && plainC b
  | .cond _ a b => plainC a && plainC b
  | .block _ b => plainC b
  | .skip => true
  | .ret => true
  | .exit _ => true
  | _ => false
/-- The slots that a piece writes. -/
def dstsC : Code → List Nat
  | .region _ ops _ => ops.toList.filterMap (·.dst)
  | .seq a b => dstsC a ++ dstsC b
  | .cond _ a b => dstsC a ++ dstsC b
  | .block _ b => dstsC b
  | .loop b => dstsC b
  | _ => []
theorem exec_soundD {n0 : Nat → Prop} {N : Nat} {w0 : World} {A0 : (Nat → Prop) × RP} {r : Option Nat} {n : Nat} {ds : List Deferred} {D : Nat → Prop} {a0 : Act} : ∀ (c : Code) (σ : St) (Q : Exit → St → Prop), plainC c = true → dstOk N c = true → (∀ d ∈ dstsC c, D d) → exec P c σ Q →
    ∀ (g : Gh) (a : Act) (w : World), Rel n0 N σ g a w → LtK n0 w → Bk n0 w0 w → (g.A0, g.R0) = A0 → Ag D a0 a → c.wpIn (FR r) n P (EndsD n0 N w0 A0 ds D a0 Q) { a with defers := ds } w
  | .skip, σ, Q, _, _, _, h, g, a, w, hr, hn, hb, hA, hg => wpIn_skip ⟨a, rfl, hg, σ, g, h, hr, hn, hb, hA⟩
  | .ret, σ, Q, _, _, _, h, g, a, w, hr, hn, hb, hA, hg => wpIn_ret ⟨a, rfl, hg, σ, g, h, hr, hn, hb, hA⟩
  | .exit id, σ, Q, _, _, _, h, g, a, w, hr, hn, hb, hA, hg => wpIn_exit ⟨a, rfl, hg, σ, g, h, hr, hn, hb, hA⟩
  | .seq x y, σ, Q, hp, hd, hD, h, g, a, w, hr, hn, hb, hA, hg => by
    simp only [dstOk, plainC, Bool.and_eq_true] at hd hp
    simp only [dstsC, List.mem_append] at hD
    refine wpIn_seq (wpIn_mono (exec_soundD x σ _ hp.1 hd.1 (fun d h => hD d (Or.inl h)) h g a w hr hn hb hA hg) fun e a' w' hq => ?_)
    obtain ⟨a1, rfl, hg1, σ', g', h1, h2, h3, h4, h5⟩ := hq
    cases e with
    | normal => exact exec_soundD y σ' Q hp.2 hd.2 (fun d h => hD d (Or.inr h)) h1 g' a1 w' h2 h3 h4 h5 hg1
    | exit i => exact ⟨a1, rfl, hg1, σ', g', h1, h2, h3, h4, h5⟩
    | goto l => exact ⟨a1, rfl, hg1, σ', g', h1, h2, h3, h4, h5⟩
    | ret => exact ⟨a1, rfl, hg1, σ', g', h1, h2, h3, h4, h5⟩
    | panic ch => exact ⟨a1, rfl, hg1, σ', g', h1, h2, h3, h4, h5⟩
    | outgrown => exact ⟨a1, rfl, hg1, σ', g', h1, h2, h3, h4, h5⟩
  | .cond c x y, σ, Q, hp, hd, hD, h, g, a, w, hr, hn, hb, hA, hg => by
    simp only [dstOk, plainC, Bool.and_eq_true] at hd hp
    simp only [dstsC, List.mem_append] at hD
    unfold exec at h
    have hv := hr.get P 0 c
    split at h
    · rename_i t hc
      rw [hc] at hv
      simp only [VR, CR, RepV] at hv
      exact wpIn_cond_split hv (fun ht => exec_soundD x σ Q hp.1 hd.1 (fun d h => hD d (Or.inl h)) (h.1 ht) g a w hr hn hb hA hg) (fun ht => exec_soundD y σ Q hp.2 hd.2 (fun d h => hD d (Or.inr h)) (h.2 ht) g a w hr hn hb hA hg)
    · exact h.elim
  | .block id b, σ, Q, hp, hd, hD, h, g, a, w, hr, hn, hb, hA, hg => by
    refine wpIn_block (wpIn_mono (exec_soundD b σ _ hp hd hD h g a w hr hn hb hA hg) fun e a' w' hq => ?_)
    obtain ⟨a1, rfl, hg1, σ', g', h1, h2, h3, h4, h5⟩ := hq
    cases e with
    | exit i =>
      simp only [Exit.inBlock]
      simp only at h1
      split at h1
      · rw [if_pos ‹_›]; exact ⟨a1, rfl, hg1, σ', g', h1, h2, h3, h4, h5⟩
      · rw [if_neg ‹_›]; exact ⟨a1, rfl, hg1, σ', g', h1, h2, h3, h4, h5⟩
    | normal => exact ⟨a1, rfl, hg1, σ', g', h1, h2, h3, h4, h5⟩
    | goto l => exact ⟨a1, rfl, hg1, σ', g', h1, h2, h3, h4, h5⟩
    | ret => exact ⟨a1, rfl, hg1, σ', g', h1, h2, h3, h4, h5⟩
    | panic ch => exact ⟨a1, rfl, hg1, σ', g', h1, h2, h3, h4, h5⟩
    | outgrown => exact ⟨a1, rfl, hg1, σ', g', h1, h2, h3, h4, h5⟩
  | .region id ops false, σ, Q, hp, hd, hD, h, g, a, w, hr, hn, hb, hA, hg => by
    refine wpIn_region ?_
    have hd' : ∀ o ∈ ops.toList, Oper.nodef o = true ∧ ∀ d, o.dst = some d → d < N ∧ D d := fun o ho => by
      simp only [dstOk, plainC, Array.all_eq_true_iff_forall_mem] at hd hp
      refine ⟨hp o (by simpa using ho), fun d hdd => ⟨?_, hD d (by simp only [dstsC, List.mem_filterMap]; exact ⟨o, ho, hdd⟩)⟩⟩
      have := hd o (by simpa using ho)
      rw [hdd] at this
      simpa using this
    rw [List.range_eq_range']
    exact ops_soundD (fun a w σ g h1 h2 h3 h4 h5 h6 => ⟨a, rfl, h6, σ, g, h1, h2, h3, h4, h5⟩) ops.size 0 (by omega) hd' σ g a w (by simpa [exec] using h) hr hn hb hA hg
  | .loop _, _, _, hp, _, _, _, _, _, _, _, _, _, _, _ => by cases hp
  | .region _ _ true, _, _, hp, _, _, _, _, _, _, _, _, _, _, _ => by cases hp
  | .rangeFunc .., _, _, hp, _, _, _, _, _, _, _, _, _, _, _ => by cases hp
  | .scope _, _, _, hp, _, _, _, _, _, _, _, _, _, _, _ => by cases hp
  | .label _, _, _, hp, _, _, _, _, _, _, _, _, _, _, _ => by cases hp
  | .goto _, _, _, hp, _, _, _, _, _, _, _, _, _, _, _ => by cases hp
  | .refuse _, _, _, hp, _, _, _, _, _, _, _, _, _, _, _ => by cases hp
end Go.Proofs.Ytfppgpojemdijaa
/-
  The walk over plain data: a range over a function that hands out a slice's elements from behind.
  Conditions: none.
-/
namespace Go.Proofs.Ytfppgpojemdijaa
set_option linter.unusedSimpArgs false
set_option linter.unusedVariables false
set_option linter.unusedSectionVars false
set_option maxRecDepth 4000
open Go.RowKit
variable {P : Program}
/-- The world turns in blocks that the state does not speak of; what is kept and what may be read is named anew. -/
theorem Rel.turn {n0 n1 A1 : Nat → Prop} {N : Nat} {σ : St} {g : Gh} {a : Act} {w w' : World} (h : Rel n0 N σ g a w) (hF : ∀ b, Fix σ g w b → A1 b ∧ w'.heap[b]? = w.heap[b]?) (hz : w.heap.size ≤ w'.heap.size)
    (hn : ∀ b, ¬ n1 b → A1 b ∧ g.R0 b) (hb : ∀ k, σ.bx k ≠ none → ¬ n1 (g.β k) ∧ w'.heap[g.β k]? = w.heap[g.β k]?) (he : ∀ e, σ.On e → ∀ b ∈ g.φ e, ¬ n1 b ∧ A1 b ∧ w'.heap[b]? = w.heap[b]?) : Rel n1 N σ { g with A0 := A1 } a w' := by
  have m : Mv σ σ g { g with A0 := A1 } w w' := ⟨fun b hf => (hF b hf).2, fun b hf => ⟨hf.1, hf.2.1, Nat.lt_of_lt_of_le hf.2.2.1 hz, (hF b hf).1⟩, fun b hbb => ⟨rfl, hbb⟩, fun e n hh => ⟨hh, rfl⟩, fun b hb => hb.2⟩
  refine ⟨h.defers, h.size, hn, fun i => m.vr (h.slots i), fun b cs hbb => ?_, fun b hbb => (hb b hbb).1, h.inj, fun e x hx ho => m.evr (h.evs e x hx ho) fun b hm => (he e ⟨x, hx, ho⟩ b hm).2.2, fun e x hx ho => ⟨m.rep (h.offs e x hx ho).1, (h.offs e x hx ho).2⟩, h.slc, fun e ho b hm => ⟨(he e ho b hm).2.1, (h.ebase e ho b hm).2⟩, fun e ho b hm => (he e ho b hm).1, h.nodup, h.apart, h.ebx⟩
  obtain ⟨vs, ty, k1, k2⟩ := h.boxes b cs hbb
  exact ⟨vs, ty, by rw [(hb b (by rw [hbb]; simp)).2]; exact k1, m.crs k2⟩
theorem Rel.elt {n0 : Nat → Prop} {N : Nat} {σ : St} {g : Gh} {a : Act} {w : World} (h : Rel n0 N σ g a w) {e : Nat} (ho : σ.On e) {b : Nat} (hm : b ∈ g.φ e) : b < w.heap.size := by
  obtain ⟨x, hx, hon⟩ := ho
  exact (h.evs e x hx hon).lt b hm
/-- Two new blocks that the state never speaks of. -/
theorem Rel.enter {n0 : Nat → Prop} {N : Nat} {σ : St} {g : Gh} {a : Act} {w : World} (h : Rel n0 N σ g a w) (o1 o2 : Obj) :
    Rel (fun b => n0 b ∨ b = w.heap.size ∨ b = w.heap.size + 1) N σ { g with A0 := fun b => g.A0 b ∧ b ≠ w.heap.size ∧ b ≠ w.heap.size + 1 } a ((w.alloc o1).alloc o2) := by
  have hs : ∀ b, b < w.heap.size → ((w.alloc o1).alloc o2).heap[b]? = w.heap[b]? := fun b hb => by rw [Below.heap_alloc _ _ _ (by simp; omega), Below.heap_alloc _ _ _ hb]
  refine h.turn (fun b hf => ⟨⟨hf.2.2.2, ?_, ?_⟩, hs b hf.2.2.1⟩) (by simp; omega) (fun b hb => ?_) (fun k hk => ⟨?_, hs _ (h.lt hk)⟩) (fun e ho b hm => ?_)
  · have := hf.2.2.1; omega
  · have := hf.2.2.1; omega
  · have h1 : ¬ n0 b := fun k => hb (Or.inl k)
    exact ⟨⟨(h.anew b h1).1, fun e => hb (Or.inr (Or.inl e)), fun e => hb (Or.inr (Or.inr e))⟩, (h.anew b h1).2⟩
  · have := h.lt hk
    rintro (k1 | k1 | k1)
    · exact h.base k hk k1
    · omega
    · omega
  · have := h.elt ho hm
    refine ⟨?_, ⟨(h.ebase e ho b hm).1, by omega, by omega⟩, hs b this⟩
    rintro (k1 | k1 | k1)
    · exact h.etop e ho b hm k1
    · omega
    · omega
/-- One of those blocks turns. -/
theorem Rel.putObj {n1 : Nat → Prop} {N : Nat} {σ : St} {g : Gh} {a : Act} {w : World} (h : Rel n1 N σ g a w) {l : Nat} (hl : n1 l) (hA : ¬ g.A0 l) (o : Obj) : Rel n1 N σ g a (w.putObj l o) := by
  have := h.turn (n1 := n1) (A1 := g.A0) (w' := w.putObj l o) (fun b hf => ⟨hf.2.2.2, World.putObj_heap_other (fun e => hA (e ▸ hf.2.2.2))⟩) (by simp) h.anew
    (fun k hk => ⟨h.base k hk, World.putObj_heap_other (fun e => h.base k hk (e ▸ hl))⟩) (fun e ho b hm => ⟨h.etop e ho b hm, (h.ebase e ho b hm).1, World.putObj_heap_other (fun e' => h.etop e ho b hm (e' ▸ hl))⟩)
  exact this
/-- Back to what was kept before. -/
theorem Rel.leave {n0 n1 A1 : Nat → Prop} {N : Nat} {σ : St} {g : Gh} {a : Act} {w : World} (h : Rel n1 N σ g a w) (hn : ∀ b, n0 b → n1 b) (hA : ∀ b, g.A0 b → A1 b) (hnew : ∀ b, ¬ n0 b → A1 b ∧ g.R0 b) : Rel n0 N σ { g with A0 := A1 } a w :=
  h.turn (fun b hf => ⟨hA b hf.2.2.2, rfl⟩) (Nat.le_refl _) hnew (fun k hk => ⟨fun k1 => h.base k hk (hn _ k1), rfl⟩) (fun e ho b hm => ⟨fun k1 => h.etop e ho b hm (hn _ k1), hA b (h.ebase e ho b hm).1, rfl⟩)
/-- The slots of an earlier frame. -/
theorem Rel.frame {n0 : Nat → Prop} {N : Nat} {σ : St} {g : Gh} {a a0 : Act} {w : World} (h : Rel n0 N σ g a w) {D : Nat → Prop} (hg : Ag D a0 a) (hd : a0.defers = []) (hz : a0.tmps.size = N) (hany : ∀ i, D i → σ.sl i = .one .any) : Rel n0 N σ g a0 w := by
  refine h.slots_of rfl rfl hd hz fun i => ?_
  by_cases hi : D i
  · rw [hany i hi]; trivial
  · have h1 := hg i hi
    have h2 := h.slots i
    have e : a0.tmps.getD i (g.R0.ξ i) = a.tmps.getD i (g.R0.ξ i) := by
      rw [Array.getD_eq_getD_getElem?, Array.getD_eq_getD_getElem?] at h1 ⊢
      by_cases hlt : i < N
      · have s1 : i < a.tmps.size := by rw [h.size]; exact hlt
        have s2 : i < a0.tmps.size := by rw [hz]; exact hlt
        simp only [Array.getElem?_eq_getElem s1, Array.getElem?_eq_getElem s2, Option.getD_some] at h1 ⊢
        exact h1.symm
      · have s1 : ¬ i < a.tmps.size := by rw [h.size]; exact hlt
        have s2 : ¬ i < a0.tmps.size := by rw [hz]; exact hlt
        simp [s1, s2]
    rw [e]; exact h2

/-- An element's value. -/
def agv (ag : Bool) (r : List Value) : Value := if ag = true then .agg ⟨r⟩ else r.headD undef
/-- The function that hands out a slice's elements from behind: it reads the slice anew for each. -/
def BackFn (P : Program) (f : FuncId) (ag : Bool) (sz : Nat) : Prop := ∀ (l Bs n : Nat) (W : World) (J : Nat → World → Prop), n ≤ maxI →
  (∀ W, J 0 W → ∃ ao cap, W.cell? ⟨Bs, 0, none⟩ = some (.slice ao n cap)) →
  (∀ k W, J k W → k < n → ∃ b o cap r, W.cell? ⟨Bs, 0, none⟩ = some (.slice (some ⟨b, o, none⟩) n cap) ∧ r.length = sz ∧ (∀ j v, r[j]? = some v → W.cell? ⟨b, o + (n - 1 - k) * sz + j, none⟩ = some v) ∧
    YieldAt (FR none) 5 P l #[.int .i64 ((n - 1 - k : Nat) : Int), agv ag r] W fun e W' => e = .returned (.bool true) ∧ J (k + 1) W') →
  J 0 W → CallsIn (FR none) 6 P f #[.func (.yield l) #[] #[], .pointer (some ⟨Bs, 0, none⟩)] W fun e W' => (∃ v, e = .returned v) ∧ J n W'
theorem RepAt.valsN {w : World} {A : Nat → Prop} {b : Nat} : ∀ {cs : List T} {o : Nat}, RepAt w A b o cs → ∃ vs, RepAll w A cs vs ∧ ∀ j v, vs[j]? = some v → w.cell? ⟨b, o + j, none⟩ = some v
  | [], _, _ => ⟨[], by unfold RepAll; rfl, fun j v h => by simp at h⟩
  | c :: cs, o, h => by
    unfold RepAt at h
    obtain ⟨⟨v, h1, h2⟩, h3⟩ := h
    obtain ⟨vs, k1, k2⟩ := RepAt.valsN h3
    refine ⟨v :: vs, by unfold RepAll; exact ⟨v, vs, rfl, h2, k1⟩, fun j u hj => ?_⟩
    cases j with
    | zero => simp only [List.getElem?_cons_zero, Option.some.injEq] at hj; subst hj; exact h1
    | succ j =>
      have := k2 j u (by simpa using hj)
      rwa [show o + (j + 1) = o + 1 + j by omega]
/-- An element, as the loop's variable holds it. -/
def rowN (ag : Bool) (r : List T) : V := if ag = true then .agg (r.map T.toN) else .one (r.headD (.bool false)).toN
theorem rowN_vr {σ : St} {g : Gh} {w : World} {ag : Bool} {r : List T} {vs : List Value} (hag : ag = true ∨ r.length = 1) (h : RepAll w (Free σ g w) r vs) : VR σ g w (rowN ag r) (agv ag vs) := by
  cases ag with
  | true => exact ⟨vs, rfl, toN_crs (fun _ h => h) h⟩
  | false =>
    have hl := hag.resolve_left (by simp)
    match r, hl, h with
    | [c], _, h =>
      unfold RepAll at h
      obtain ⟨v, vs', rfl, h1, h2⟩ := h
      exact toN_cr (fun _ h => h) h1
theorem Bk.mono {n0 n1 : Nat → Prop} {w w' : World} (h : Bk n1 w w') (hn : ∀ b, n0 b → n1 b) : Bk n0 w w' := ⟨h.os, h.tape, h.output, h.size, fun k hk => h.block k (hn k hk)⟩
theorem Bk.putObj {n0 : Nat → Prop} (w : World) {l : Nat} (hl : ¬ n0 l) (o : Obj) : Bk n0 w (w.putObj l o) := ⟨rfl, rfl, rfl, by simp, fun k hk => World.putObj_heap_other (fun e => hl (e ▸ hk))⟩
theorem boxRead {n0 : Nat → Prop} {N : Nat} {σ : St} {g : Gh} {a : Act} {w : World} (h : Rel n0 N σ g a w) {id sz : Nat} {rows : List (List T)} (hb : σ.bx id = some [.rn (.sl sz rows)]) :
    ∃ ao cap, w.cell? ⟨g.β id, 0, none⟩ = some (.slice ao rows.length cap) ∧ rows.length ≤ maxI ∧ (rows = [] ∨ ∃ b o, ao = some ⟨b, o, none⟩ ∧ RepRows w (Free σ g w) b o sz rows) := by
  obtain ⟨⟨vl⟩, ty, k1, v, vs', rfl, k2, k3⟩ := h.boxes id _ hb
  obtain rfl : vs' = [] := k3
  simp only [CR] at k2
  unfold RepV at k2
  obtain ⟨ao, cap, rfl, h2, h3, h4⟩ := k2
  refine ⟨ao, cap, by simp [World.cell?, k1], by omega, h4.imp (fun h => h) ?_⟩
  rintro ⟨b, o, e1, _, e2⟩
  exact ⟨b, o, e1, e2⟩
theorem wp_rangeBack {F1 : FuncId} {ag : Bool} {sz t p1 p2 id N m : Nat} {asg bd : Code} (hB : BackFn P F1 ag sz) (hc : Callable P F1) (hpa : plainC asg = true) (hpb : plainC bd = true) (hda : dstOk N asg = true) (hdb : dstOk N bd = true) (hp1 : p1 < N) (hp2 : p2 < N) (ht : t < 1000000)
    (H : Nat → St) (rows : List (List T)) (hag : ag = true ∨ sz = 1) (hslot : ∀ k, (H k).sl t = .one (.fn F1 [id]) ∧ (H k).bx id = some [.rn (.sl sz rows)]) (hany : ∀ k, ∀ i ∈ p1 :: p2 :: (dstsC asg ++ dstsC bd), (H k).sl i = .one .any)
    (hround : ∀ k, k < rows.length → exec P asg (((H k).put (some p1) (.one (.t (.int .i64 ((rows.length - 1 - k : Nat) : Int))))).put (some p2) (rowN ag (rows.getD (rows.length - 1 - k) []))) fun e σ2 => e = .normal ∧ exec P bd σ2 fun e σ3 => e = .normal ∧ Wk σ3 (H (k + 1)))
    {n0 : Nat → Prop} {g : Gh} {a : Act} {w0 w : World} (hR : Rel n0 N (H 0) g a w) (hn : LtK n0 w) (hb : Bk n0 w0 w) {Q : Exit → Act → World → Prop}
    (hQ : ∀ g' w', Rel (fun b => n0 b ∨ b = w.heap.size ∨ b = w.heap.size + 1) N (H rows.length) g' a w' → LtK (fun b => n0 b ∨ b = w.heap.size ∨ b = w.heap.size + 1) w' → Bk n0 w0 w' → w'.heap[w.heap.size]? = some (.deferred (some [])) →
      (g'.A0, g'.R0) = ((fun b => g.A0 b ∧ b ≠ w.heap.size ∧ b ≠ w.heap.size + 1), g.R0) → Q .normal { a with defers := [{ target := .collected w.heap.size, args := #[] }] } w') :
    (Code.rangeFunc (.tmp t) #[p1, p2] asg bd).wpIn (FR none) m P Q a w := by
  obtain ⟨n1, hn1⟩ : ∃ n1 : Nat → Prop, n1 = fun b => n0 b ∨ b = w.heap.size ∨ b = w.heap.size + 1 := ⟨_, rfl⟩
  obtain ⟨A1, hA1⟩ : ∃ A1 : (Nat → Prop) × RP, A1 = ((fun b => g.A0 b ∧ b ≠ w.heap.size ∧ b ≠ w.heap.size + 1), g.R0) := ⟨_, rfl⟩
  rw [← hn1, ← hA1] at hQ
  have hD1 : n1 w.heap.size := by rw [hn1]; exact Or.inr (Or.inl rfl)
  have hl1 : n1 (w.heap.size + 1) := by rw [hn1]; exact Or.inr (Or.inr rfl)
  have hsub : ∀ b, n0 b → n1 b := fun b h => by rw [hn1]; exact Or.inl h
  have hl0 : ¬ n0 (w.heap.size + 1) := hn.new (by omega)
  have hAl : ∀ g' : Gh, (g'.A0, g'.R0) = A1 → ¬ g'.A0 (w.heap.size + 1) := fun g' h k => by rw [hA1] at h; rw [(Prod.mk.inj h).1] at k; exact k.2.2 rfl
  have hv0 : a.tmps.getD t undef = .func (.func F1) #[] ⟨[.pointer (some ⟨g.β id, 0, none⟩)]⟩ := by
    have := hR.slot_at ht
    rw [(hslot 0).1] at this
    exact this.1
  have hβ : ∀ {k g' W}, Rel n1 N (H k) g' a W → g'.β id = g.β id := fun {k g' W} h => by
    have h1 := h.slot_at ht
    rw [(hslot k).1] at h1
    have h2 := h1.1
    rw [hv0] at h2
    simp only [List.map_cons, List.map_nil, Value.func.injEq, Array.mk.injEq, List.cons.injEq, Value.pointer.injEq, Option.some.injEq, Addr.mk.injEq, and_true, true_and] at h2
    exact h2.symm
  refine wpIn_rangeFunc ?_
  intro fn hfn
  obtain ⟨rec, hrec⟩ : ∃ rec : LoopState → Loop, rec = fun st => { state := st, pending := none, fn, tmps := a.tmps, params := #[p1, p2], assign := asg, body := bd, defers := w.heap.size } := ⟨_, rfl⟩
  obtain ⟨W1, hW1⟩ : ∃ W1, (w.alloc (.deferred (some []))).alloc (.loop (rec .ready)) = W1 := ⟨_, rfl⟩
  have hL1 : W1.heap[w.heap.size + 1]? = some (.loop (rec .ready)) := by
    rw [← hW1]; have := World.alloc_heap_new (w.alloc (.deferred (some []))) (.loop (rec .ready)); rwa [World.size_alloc] at this
  have hK1 : W1.heap[w.heap.size]? = some (.deferred (some [])) := by
    rw [← hW1]; exact (Below.heap_alloc _ _ _ (by simp)).trans (World.alloc_heap_new w _)
  have hR1 : Rel n1 N (H 0) { g with A0 := fun b => g.A0 b ∧ b ≠ w.heap.size ∧ b ≠ w.heap.size + 1 } a W1 := by rw [← hW1, hn1]; exact hR.enter _ _
  have hb1 : Bk n0 w0 W1 := by rw [← hW1]; exact (hb.trans (Bk.of_alloc hn _)).trans (Bk.of_alloc (hn.mono (by simp)) _)
  have hz1 : LtK n1 W1 := by
    rw [← hW1, hn1]
    rintro k (h | rfl | rfl)
    · have := hn k h; simp; omega
    · simp; omega
    · simp
  have hg : a.eval (.tmp t) = .func (.func F1) #[] #[.pointer (some ⟨g.β id, 0, none⟩)] := hv0
  refine ⟨w.heap.size + 1, [{ target := .collected w.heap.size, args := #[] }], W1, { target := .fn (.func F1) #[.pointer (some ⟨g.β id, 0, none⟩)], args := #[.func (.yield (w.heap.size + 1)) #[] #[]] }, W1, F1,
    #[.func (.yield (w.heap.size + 1)) #[] #[]] ++ #[.pointer (some ⟨g.β id, 0, none⟩)], W1, ?_, ?_, fun _ _ => trivial, ?_, (fun h => by cases h), ?_⟩
  · rw [← hW1, hrec]; exact run_enterLoop_outer _ _ _ _ _
  · simp only [resolve, hg]
    simp [go_sem]
  · have hc' : ∀ (args : Array Value) (w : World), (callFunc F1 args).run P w = .ok (.enter F1 args) w := hc
    simp [invoke, go_sem, hc']
  · have hgA : ∀ {g' : Gh}, (g'.A0, g'.R0) = A1 → g'.R0 = g.R0 := fun {g'} h => by rw [hA1] at h; exact (Prod.mk.inj h).2
    obtain ⟨J, hJ⟩ : ∃ J : Nat → World → Prop, J = fun k W => (∃ gk, Rel n1 N (H k) gk a W ∧ (gk.A0, gk.R0) = A1) ∧ LtK n1 W ∧ Bk n0 w0 W ∧ W.heap[w.heap.size + 1]? = some (.loop (rec .ready)) ∧ W.heap[w.heap.size]? = some (.deferred (some [])) := ⟨_, rfl⟩
    have hmax : rows.length ≤ maxI := by obtain ⟨_, _, _, h, _⟩ := boxRead hR1 (hslot 0).2; exact h
    refine CallsIn.mono (callsIn_FR.2 (callsIn_FR.1 (hB (w.heap.size + 1) (g.β id) rows.length W1 J hmax ?_ ?_ ?_))) ?_
    · rintro W h
      rw [hJ] at h
      obtain ⟨⟨gk, k1, k2⟩, _⟩ := h
      obtain ⟨ao, cap, h1, _⟩ := boxRead k1 (hslot 0).2
      rw [hβ k1] at h1
      exact ⟨ao, cap, h1⟩
    · rintro k W h hk
      rw [hJ] at h
      obtain ⟨⟨gk, k1, k2⟩, k3, k4, k5, k6⟩ := h
      obtain ⟨ao, cap, h1, _, h2⟩ := boxRead k1 (hslot k).2
      rw [hβ k1] at h1
      obtain ⟨b, o, rfl, h3⟩ := h2.resolve_left (fun e => by rw [e] at hk; simp at hk)
      have hi : rows.length - 1 - k < rows.length := by omega
      obtain ⟨h4, h5⟩ := h3.at (rows.length - 1 - k) rows[rows.length - 1 - k] (by simp [hi])
      obtain ⟨vs, h6, h7⟩ := h5.valsN
      refine ⟨b, o, cap, vs, h1, by rw [h6.len]; exact h4, h7, ?_⟩
      have hy := run_yield (P := P) (args := #[.int .i64 ((rows.length - 1 - k : Nat) : Int), agv ag vs]) k5 (by rw [hrec]; rfl)
      rw [hrec] at hy
      refine ⟨fn, _, asg, bd, hy, roundIn_of_wpIn hfn ?_⟩
      clear hy
      have hda' : a.defers = [] := k1.defers
      have hex := hround k hk
      rw [show rows.getD (rows.length - 1 - k) [] = rows[rows.length - 1 - k] by simp [hi]] at hex
      have q1 : Rel n1 N (((H k).put (some p1) (.one (.t (.int .i64 ((rows.length - 1 - k : Nat) : Int))))).put (some p2) (rowN ag rows[rows.length - 1 - k])) gk ((a.put (some p1) (.int .i64 ((rows.length - 1 - k : Nat) : Int))).put (some p2) (agv ag vs)) W := by
        refine (k1.put (some p1) (v := .int .i64 ((rows.length - 1 - k : Nat) : Int)) ?_ (fun i e => by cases e; exact hp1)).put (some p2) ?_ (fun i e => by cases e; exact hp2)
        · show RepV _ _ _ _
          unfold RepV
          have m1 : IntKind.min .i64 = -9223372036854775808 := by decide
          have m2 : IntKind.max .i64 = 9223372036854775807 := by decide
          unfold maxI at hmax
          exact ⟨rfl, by omega, by omega⟩
        · exact (Mv.of_eq gk W rfl rfl).vr (rowN_vr (hag.imp (fun h => h) fun h => by rw [h4, h]) h6)
      have q2 : Ag (fun i => i ∈ p1 :: p2 :: (dstsC asg ++ dstsC bd)) a ((a.put (some p1) (.int .i64 ((rows.length - 1 - k : Nat) : Int))).put (some p2) (agv ag vs)) :=
        ((Ag.refl _ a).put (fun i e => by cases e; simp) _).put (fun i e => by cases e; simp) _
      have ef : (#[p1, p2].zip #[.int .i64 ((rows.length - 1 - k : Nat) : Int), agv ag vs]).foldl (fun (tmps : Array Value) (x : Nat × Value) => match x with | (t, v) => tmps.setIfInBounds t v) a.tmps = ((a.put (some p1) (.int .i64 ((rows.length - 1 - k : Nat) : Int))).put (some p2) (agv ag vs)).tmps := by simp [Act.put]
      show asg.wpIn (FR (some (w.heap.size + 1))) 5 P _ { tmps := (#[p1, p2].zip #[.int .i64 ((rows.length - 1 - k : Nat) : Int), agv ag vs]).foldl (fun (tmps : Array Value) (x : Nat × Value) => match x with | (t, v) => tmps.setIfInBounds t v) a.tmps, defers := [] } W
      rw [ef]
      refine wpIn_mono (exec_soundD (r := some (w.heap.size + 1)) (n := 5) (ds := []) (D := fun i => i ∈ p1 :: p2 :: (dstsC asg ++ dstsC bd)) (a0 := a) asg _ _ hpa hda (fun d hd => by simp [hd]) hex gk _ W q1 k3 (Bk.refl n1 W) k2 q2) ?_
      rintro e a2 W2 ⟨a1, rfl, q3, σ2, g2, ⟨rfl, hex2⟩, q4, q5, q6, q7⟩
      have r1 : W2.heap[w.heap.size + 1]? = some (.loop (rec .ready)) := (q6.block _ hl1).trans k5
      refine ⟨_, run_beginRound r1 (by rw [hrec]), ?_⟩
      have q4' := q4.putObj hl1 (hAl g2 q7) (.loop { rec .ready with state := .busy })
      have q5' : LtK n1 (W2.putObj (w.heap.size + 1) (.loop { rec .ready with state := .busy })) := fun b hb => by have := q5 b hb; simpa using this
      refine wpIn_mono (exec_soundD (r := some (w.heap.size + 1)) (n := 5) (ds := []) (D := fun i => i ∈ p1 :: p2 :: (dstsC asg ++ dstsC bd)) (a0 := a) bd _ _ hpb hdb (fun d hd => by simp [hd]) hex2 g2 _ _ q4' q5' (Bk.refl n1 _) q7 q3) ?_
      rintro e a3 W3 ⟨a4, rfl, s3, σ3, g3, ⟨rfl, hwk⟩, s4, s5, s6, s7⟩
      have r2 : W3.heap[w.heap.size + 1]? = some (.loop { rec .ready with state := .busy }) := (s6.block _ hl1).trans (World.putObj_heap_same (Array.getElem?_eq_some_iff.1 r1).1)
      have r3 := run_endRound (P := P) none r2
      obtain ⟨g4, t1, t2, t3⟩ := hwk _ _ _ _ _ s4
      have hA4 : (g4.A0, g4.R0) = A1 := by rw [t2, t3]; exact s7
      have t4 : Rel n1 N (H (k + 1)) g4 a W3 := t1.frame s3 hda' k1.size (hany (k + 1))
      refine ⟨_, _, r3, rfl, ?_⟩
      rw [hJ]
      refine ⟨⟨g4, t4.putObj hl1 (hAl g4 hA4) _, hA4⟩, fun b hb => by have := s5 b hb; simpa using this, ?_, by rw [World.putObj_heap_same (Array.getElem?_eq_some_iff.1 r2).1, hrec]; rfl, ?_⟩
      · exact (((k4.trans (q6.mono hsub)).trans (Bk.putObj _ hl0 _)).trans (s6.mono hsub)).trans (Bk.putObj _ hl0 _)
      · rw [World.putObj_heap_other (by omega), s6.block _ hD1, World.putObj_heap_other (by omega), q6.block _ hD1]; exact k6
    · rw [hJ]
      exact ⟨⟨_, hR1, hA1.symm⟩, hz1, hb1, hL1, hK1⟩
    · rintro e W2 ⟨⟨v, rfl⟩, h⟩
      rw [hJ] at h
      obtain ⟨⟨gk, k1, k2⟩, k3, k4, k5, k6⟩ := h
      refine ⟨none, _, by have := run_endLoop (P := P) k5 (by rw [hrec]; simp); rw [hrec] at this; exact this, ?_⟩
      have hda' : a.defers = [] := k1.defers
      show Q .normal { a with defers := [{ target := .collected w.heap.size, args := #[] }] ++ a.defers } _
      rw [hda', List.append_nil]
      exact hQ gk _ (k1.putObj hl1 (hAl gk k2) _) (fun b hb => by have := k3 b hb; simpa using this) (k4.trans (Bk.putObj _ hl0 _)) ((World.putObj_heap_other (by omega)).trans k6) k2
end Go.Proofs.Ytfppgpojemdijaa
/-
  The walk over plain data: the head for a function with a range over slices.Backward.
  Conditions: none.
-/
namespace Go.Proofs.Ytfppgpojemdijaa
set_option linter.unusedSimpArgs false
set_option linter.unusedVariables false
set_option linter.unusedSectionVars false
set_option maxRecDepth 4000
open Go.RowKit
variable {P : Program}
/-- The pieces ahead of a range over a function, the loop, and what comes behind. -/
def splitRF : Code → Option (Code × (Operand × Array Tmp × Code × Code) × Code)
  | .rangeFunc g ps asg bd => some (.skip, (g, ps, asg, bd), .skip)
  | .block _ b => match b with
    | .rangeFunc g ps asg bd => some (.skip, (g, ps, asg, bd), .skip)
    | _ => none
  | .seq x y => match splitRF x with
    | some (p, r, q) => some (p, r, .seq q y)
    | none => match splitRF y with
      | some (p, r, q) => some (.seq x p, r, q)
      | none => none
  | _ => none
/-- What a walk shows where it comes to such a loop. -/
def LoopB (P : Program) (N : Nat) (g : Operand) (ps : Array Tmp) (asg bd q : Code) (Q : Exit → St → Prop) (σ : St) : Prop :=
  ∃ (F1 : FuncId) (ag : Bool) (sz t p1 p2 id : Nat) (H : Nat → St) (rows : List (List T)), g = .tmp t ∧ ps = #[p1, p2] ∧ BackFn P F1 ag sz ∧ Callable P F1 ∧ (p1 < N ∧ p2 < N ∧ t < 1000000) ∧ (ag = true ∨ sz = 1) ∧
    (∀ k, (H k).sl t = .one (.fn F1 [id]) ∧ (H k).bx id = some [.rn (.sl sz rows)]) ∧ (∀ k, ∀ i ∈ p1 :: p2 :: (dstsC asg ++ dstsC bd), (H k).sl i = .one .any) ∧
    (∀ k, k < rows.length → exec P asg (((H k).put (some p1) (.one (.t (.int .i64 ((rows.length - 1 - k : Nat) : Int))))).put (some p2) (rowN ag (rows.getD (rows.length - 1 - k) []))) fun e σ2 => e = .normal ∧ exec P bd σ2 fun e σ3 => e = .normal ∧ Wk σ3 (H (k + 1))) ∧
    Wk σ (H 0) ∧ exec P q (H rows.length) Q
/-- What holds at the end of a piece behind such a loop. -/
def EndsM (n0 : Nat → Prop) (N : Nat) (w0 : World) (A0 : (Nat → Prop) × RP) (Q : Exit → St → Prop) (e : Exit) (a : Act) (w : World) : Prop :=
  ∃ (D : Nat) (n1 : Nat → Prop) (a1 : Act) (σ : St) (g : Gh), a = { a1 with defers := [{ target := .collected D, args := #[] }] } ∧ Q e σ ∧ Rel n1 N σ g a1 w ∧ LtK n1 w ∧ Bk n0 w0 w ∧ w.heap[D]? = some (.deferred (some [])) ∧ n1 D ∧ ¬ n0 D ∧ (∀ b, n0 b → n1 b) ∧ ¬ g.A0 D ∧ (∀ b, g.A0 b → A0.1 b) ∧ g.R0 = A0.2
theorem endsM_step {n0 : Nat → Prop} {N n : Nat} {w0 : World} {A0 : (Nat → Prop) × RP} {Q : Exit → St → Prop} {y : Code} (hp : plainC y = true) (hd : dstOk N y = true) {a : Act} {w : World} (h : EndsM n0 N w0 A0 (fun _ σ => exec P y σ Q) .normal a w) :
    y.wpIn (FR none) n P (EndsM n0 N w0 A0 Q) a w := by
  obtain ⟨D, n1, a1, σ, g, rfl, h1, h2, h3, h4, h5, h6, h7, h8, h9, h10, h11⟩ := h
  refine wpIn_mono (exec_soundD (r := none) (n := n) (ds := [{ target := .collected D, args := #[] }]) (D := fun _ => True) (a0 := a1) (A0 := (g.A0, g.R0)) y σ Q hp hd (fun _ _ => trivial) h1 g a1 w h2 h3 (Bk.refl n1 w) rfl (Ag.refl _ _)) ?_
  rintro e a' w' ⟨a2, rfl, _, σ', g', k1, k2, k3, k4, k5⟩
  have e1 : g'.A0 = g.A0 := (Prod.mk.inj k5).1
  have e2 : g'.R0 = g.R0 := (Prod.mk.inj k5).2
  exact ⟨D, n1, a2, σ', g', rfl, k1, k2, k3, h4.trans (k4.mono h8), (k4.block D h6).trans h5, h6, h7, h8, by rw [e1]; exact h9, by rw [e1]; exact h10, by rw [e2]; exact h11⟩
theorem split_sound {N n : Nat} {n0 : Nat → Prop} {w0 : World} {A0 : (Nat → Prop) × RP} : ∀ {c p q : Code} {g : Operand} {ps : Array Tmp} {asg bd : Code} {Q1 Q2 : Exit → St → Prop} {Q : Exit → Act → World → Prop}, splitRF c = some (p, (g, ps, asg, bd), q) →
    dstOk N p = true → dstOk N q = true → plainC q = true → (plainC asg = true ∧ plainC bd = true ∧ dstOk N asg = true ∧ dstOk N bd = true) → (∀ σ, Q1 .normal σ → LoopB P N g ps asg bd q Q2 σ) →
    (∀ e a w, e ≠ .normal → Ends n0 N w0 A0 Q1 e a w → Q e a w) → (∀ e a w, EndsM n0 N w0 A0 Q2 e a w → Q e a w) →
    ∀ {σ : St} {gh : Gh} {a : Act} {w : World}, exec P p σ Q1 → Rel n0 N σ gh a w → LtK n0 w → Bk n0 w0 w → (gh.A0, gh.R0) = A0 → c.wpIn (FR none) n P Q a w := by
  intro c
  have loop : ∀ {g : Operand} {ps : Array Tmp} {asg bd : Code} {Q1 Q2 : Exit → St → Prop} {Q : Exit → Act → World → Prop}, (plainC asg = true ∧ plainC bd = true ∧ dstOk N asg = true ∧ dstOk N bd = true) → (∀ σ, Q1 .normal σ → LoopB P N g ps asg bd .skip Q2 σ) →
      (∀ a w, EndsM n0 N w0 A0 Q2 .normal a w → Q .normal a w) → ∀ {σ : St} {gh : Gh} {a : Act} {w : World}, exec P .skip σ Q1 → Rel n0 N σ gh a w → LtK n0 w → Bk n0 w0 w → (gh.A0, gh.R0) = A0 → (Code.rangeFunc g ps asg bd).wpIn (FR none) n P Q a w := by
    intro g ps asg bd Q1 Q2 Q ha hL hq σ gh a w hex hR hn hb hA
    obtain ⟨F1, ag, sz, t, p1, p2, id, H, rows, rfl, rfl, h1, h2, h3, h4, h5, h6, h7, h8, h9⟩ := hL σ hex
    obtain ⟨g1, k1, k2, k3⟩ := h8 _ _ _ _ _ hR
    refine wp_rangeBack h1 h2 ha.1 ha.2.1 ha.2.2.1 ha.2.2.2 h3.1 h3.2.1 h3.2.2 H rows h4 h5 h6 h7 k1 hn hb fun g' w' q1 q2 q3 q4 q5 => hq _ _ ?_
    refine ⟨w.heap.size, _, a, H rows.length, g', rfl, h9, q1, q2, q3, q4, Or.inr (Or.inl rfl), hn.new (Nat.le_refl _), fun b hb => Or.inl hb, ?_, ?_, ?_⟩
    · rw [(Prod.mk.inj q5).1]; exact fun h => h.2.1 rfl
    · rw [(Prod.mk.inj q5).1, ← hA]; intro b hb; rw [k2] at hb; exact hb.1
    · rw [(Prod.mk.inj q5).2, ← hA]; exact k3
  induction c with
  | rangeFunc g ps asg bd _ _ =>
    intro p q g' ps' asg' bd' Q1 Q2 Q h hdp hdq hpq ha hL hx hq σ gh a w hex hR hn hb hA
    simp only [splitRF, Option.some.injEq, Prod.mk.injEq] at h
    obtain ⟨rfl, ⟨rfl, rfl, rfl, rfl⟩, rfl⟩ := h
    exact loop ha hL (fun a w => hq .normal a w) hex hR hn hb hA
  | block i b _ =>
    intro p q g' ps' asg' bd' Q1 Q2 Q h hdp hdq hpq ha hL hx hq σ gh a w hex hR hn hb hA
    cases b with
    | rangeFunc g ps asg bd =>
      simp only [splitRF, Option.some.injEq, Prod.mk.injEq] at h
      obtain ⟨rfl, ⟨rfl, rfl, rfl, rfl⟩, rfl⟩ := h
      exact wpIn_block (loop (Q := Exit.inBlock i Q) ha hL (fun a w k => hq .normal a w k) hex hR hn hb hA)
    | _ => simp [splitRF] at h
  | seq x y ihx ihy =>
    intro p q g' ps' asg' bd' Q1 Q2 Q h hdp hdq hpq ha hL hx hq σ gh a w hex hR hn hb hA
    unfold splitRF at h
    split at h
    · rename_i p1 r1 q1 hs
      simp only [Option.some.injEq, Prod.mk.injEq] at h
      obtain ⟨rfl, rfl, rfl⟩ := h
      simp only [dstOk, plainC, Bool.and_eq_true] at hdq hpq
      refine wpIn_seq (ihx (Q1 := Q1) (Q2 := fun e σ => match e with | .normal => exec P y σ Q2 | e => Q2 e σ) hs hdp hdq.1 hpq.1 ha hL (fun e a w he k => ?_) (fun e a w k => ?_) hex hR hn hb hA)
      · have := hx e a w he k
        cases e <;> first | exact absurd rfl he | exact this
      · cases e with
        | normal => exact wpIn_mono (endsM_step hpq.2 hdq.2 k) hq
        | exit i => exact hq _ _ _ k
        | goto l => exact hq _ _ _ k
        | ret => exact hq _ _ _ k
        | panic ch => exact hq _ _ _ k
        | outgrown => exact hq _ _ _ k
    · split at h
      · rename_i p1 r1 q1 hs
        simp only [Option.some.injEq, Prod.mk.injEq] at h
        obtain ⟨rfl, rfl, rfl⟩ := h
        simp only [dstOk, Bool.and_eq_true] at hdp
        refine wpIn_seq (wpIn_mono (Q := Ends n0 N w0 A0 _) ((wpIn_wide (n := n)).2 (exec_sound x σ _ hdp.1 hex gh a w hR hn hb hA)) fun e a' w' k => ?_)
        cases e with
        | normal =>
          obtain ⟨σ', g', h1, h2, h3, h4, h5⟩ := k
          exact ihy hs hdp.2 hdq hpq ha hL hx hq h1 h2 h3 h4 h5
        | exit i => exact hx _ _ _ (by simp) k
        | goto l => exact hx _ _ _ (by simp) k
        | ret => exact hx _ _ _ (by simp) k
        | panic ch => exact hx _ _ _ (by simp) k
        | outgrown => exact hx _ _ _ (by simp) k
      · cases h
  | _ => intro p q g' ps' asg' bd' Q1 Q2 Q h; simp [splitRF] at h
theorem ps_fin {n0 : Nat → Prop} {N : Nat} {σ : St} {g : Gh} {a : Act} {w : World} {fp : List Nat} {sz : Nat} (hR : Rel n0 N σ g a w) (hr : g.R0 = RP.of fun b => b ∈ fp ∨ sz ≤ b) (fn : Func) {res : List D} (hk : onSome (resList P σ fn.results.toList) (fun vs => ownV σ [] vs res) ∨ PX P fn.results.toList res σ) :
    ∃ v, (results fn a.tmps).run P w = .ok v w ∧ ∃ us fp' tp', Ending.returned v = .returned (resVal us) ∧ GDs w res us fp' tp' ∧ fp'.Nodup ∧ ∀ b ∈ fp', b ∈ fp ∨ sz ≤ b := by
  have fin : ∀ {us : List Value} {v : Value}, (results fn a.tmps).run P w = .ok v w → v = resVal us → (∃ fp' tp', GDs w res us fp' tp' ∧ fp'.Nodup ∧ ∀ b ∈ fp', ∃ e, σ.On e ∧ b ∈ g.φ e) → ∃ v, (results fn a.tmps).run P w = .ok v w ∧ ∃ us fp' tp', Ending.returned v = .returned (resVal us) ∧ GDs w res us fp' tp' ∧ fp'.Nodup ∧ ∀ b ∈ fp', b ∈ fp ∨ sz ≤ b := fun {us v} r1 rv ⟨fp', tp', o1, o2, o3⟩ => by
    refine ⟨_, r1, us, fp', tp', by rw [rv], o1, o2, fun b hb => ?_⟩
    obtain ⟨e, l, m⟩ := o3 b hb
    have := (hR.ebase e l b m).2
    rw [hr] at this
    exact this
  rcases hk with hk | ⟨pl, hk⟩
  · obtain ⟨vs, hvs, hk⟩ := onSome_ex hk
    obtain ⟨us, r1, r2⟩ := results_run hR fn hvs
    obtain ⟨used, fp', tp', o1, o2⟩ := ownV_sound hR hk r2
    exact fin r1 rfl ⟨fp', tp', o1, o2.1, fun b hb => by obtain ⟨e, _, _, l, m⟩ := o2.2.1 b hb; exact ⟨e, l, m⟩⟩
  · obtain ⟨vs, hvs, hk⟩ := onSome_ex hk
    obtain ⟨us, r1, r2⟩ := results_run hR fn hvs
    exact fin r1 rfl (px_own hR hk r2)
/-- The walk of a function with a range over slices.Backward; what was there stays as it is. -/
theorem FC_ofB {f : FuncId} {fn : Func} {c p q asg bd : Code} {g : Operand} {ps : Array Tmp} {args res : List D} (hc : Callable P f) (hf : P.funcs[f]? = some fn) (hb : fn.body = some c) (hs : splitRF c = some (p, (g, ps, asg, bd), q))
    (hd : (dstOk fn.ntmps p && dstOk fn.ntmps q && plainC q && (plainC asg && plainC bd && dstOk fn.ntmps asg && dstOk fn.ntmps bd)) = true) (hN : (rd args).length ≤ fn.ntmps)
    (h : ex P p [] (fun e σ => match e with | .normal => LoopB P fn.ntmps g ps asg bd q (PS P fn.results.toList res) σ | .ret => PS P fn.results.toList res .ret σ | _ => False) (initN args)) : FC P f args res := by
  refine ⟨hc, fun w vs fp tp hv hn => ?_⟩
  refine (callsIn_FR (r := none) (n := 0)).1 (callsIn_of_wp_marks hf hb trivial ?_)
  obtain ⟨hr, rfl, rfl⟩ := repds_of_gargs hv
  have hv' : GArgs w (fun b => b < w.heap.size ∧ True ∧ b ∉ ([] : List Nat)) (rd args) vs [] [] := GArgs.keepA (fun b hb => ⟨hb.1, trivial, hb.2⟩) hv
  obtain ⟨gh, hg, hR⟩ := Rel.start (A0 := fun _ => True) (R0 := RP.of fun b => b ∈ ([] : List Nat) ∨ w.heap.size ≤ b) (N := fn.ntmps) hv' hn (smallG_rd args) hN (fun _ _ => trivial) (fun b hb => ⟨trivial, Or.inl hb⟩) (fun b hb => ⟨trivial, by
    by_cases hlt : b < w.heap.size
    · exact Or.inl (Classical.byContradiction fun h => hb ⟨hlt, h⟩)
    · exact Or.inr (by omega)⟩)
  have hR0 : Rel (fun b => b < w.heap.size ∧ b ∉ ([] : List Nat)) fn.ntmps (initN args) gh { tmps := (⟨vs⟩ : Array Value) ++ Array.replicate (fn.ntmps - vs.length) undef, defers := [] } w := initN_rel hr hR ⟨rfl, hg⟩
  simp only [Bool.and_eq_true] at hd
  obtain ⟨⟨⟨d1, d2⟩, d3⟩, ⟨d4, d5⟩, d6⟩ := hd
  refine split_sound (n := 0) (w0 := w) hs d1 d2 d3 ⟨d4.1, d4.2, d5, d6⟩ (fun σ h => h) ?_ ?_ h hR0 (fun k hk => hk.1) (Bk.refl _ _) hg
  · rintro e a' w' he ⟨σ', g', h1, h2, h3, h4, h5⟩
    cases e with
    | normal => exact absurd rfl he
    | ret =>
      have hr0 : g'.R0 = RP.of fun b => b ∈ ([] : List Nat) ∨ w.heap.size ≤ b := (Prod.mk.inj h5).2
      obtain ⟨v, r1, us, fp', tp', r2, r3, r4, r5⟩ := ps_fin h2 hr0 fn h1
      show LeavesInM _ _ _ _ _ _ a'.defers .returning w'
      rw [h2.defers]
      exact ⟨v, r1, us, fp', tp', r2, r3, r4, r5, h4⟩
    | exit _ => exact h1.elim
    | goto _ => exact h1.elim
    | panic _ => exact h1.elim
    | outgrown => exact h1.elim
  · rintro e a' w' ⟨D, n1, a1, σ, g', rfl, h1, h2, h3, h4, h5, h6, h7, h8, h9, h10, h11⟩
    have hk : (e = .normal ∨ e = .ret) ∧ (onSome (resList P σ fn.results.toList) (fun vs => ownV σ [] vs res) ∨ PX P fn.results.toList res σ) := by
      cases e with
      | normal => exact ⟨Or.inl rfl, h1⟩
      | ret => exact ⟨Or.inr rfl, h1⟩
      | exit _ => exact h1.elim
      | goto _ => exact h1.elim
      | panic _ => exact h1.elim
      | outgrown => exact h1.elim
    have q1 := (h2.putObj h6 h9 (.deferred none)).leave (n0 := fun b => b < w.heap.size ∧ b ∉ ([] : List Nat)) (A1 := fun _ => True) h8 (fun _ _ => trivial) (fun b hb => ⟨trivial, by
      rw [h11]
      by_cases hlt : b < w.heap.size
      · exact absurd ⟨hlt, by simp⟩ hb
      · exact Or.inr (by omega)⟩)
    obtain ⟨v, r1, us, fp', tp', r2, r3, r4, r5⟩ := ps_fin q1 h11 fn hk.2
    have main : LeavesInM (FR none) 0 P fn a1.tmps (fun e w' => ∃ us fp' tp', e = .returned (resVal us) ∧ GDs w' res us fp' tp' ∧ fp'.Nodup ∧ (∀ b ∈ fp', b ∈ ([] : List Nat) ∨ w.heap.size ≤ b) ∧ Bk (fun k => k < w.heap.size ∧ k ∉ ([] : List Nat)) w w') [{ target := .collected D, args := #[] }] .returning w' :=
      ⟨by simp, Or.inl ⟨D, _, rfl, run_takeDeferred h5, ⟨v, r1, us, fp', tp', r2, r3, r4, r5, h4.trans (Bk.putObj _ h7 _)⟩⟩⟩
    rcases hk.1 with rfl | rfl <;> exact main
end Go.Proofs.Ytfppgpojemdijaa
/-
  The walk over plain data: the call of slices.Backward.
  Conditions: none.
-/
namespace Go.Proofs.Ytfppgpojemdijaa
set_option linter.unusedSimpArgs false
set_option linter.unusedVariables false
set_option linter.unusedSectionVars false
set_option maxRecDepth 4000
open Go.RowKit
variable {P : Program}
/-- The function boxes its slice and returns a function that has captured the box. -/
def MakesB (P : Program) (f f1 : FuncId) : Prop := Callable P f ∧ ∀ (a : Option Addr) (len cap : Nat) (w : World), Calls P f #[.slice a len cap] w fun e w' => ∃ ty, e = .returned (.func (.func f1) #[] #[.pointer (some ⟨w.heap.size, 0, none⟩)]) ∧ w' = w.alloc (.cells #[.slice a len cap] ty)
def St.callB (σ : St) (d : Nat) (f1 : FuncId) (c : C) : St := { sl := upd σ.sl d (.one (.fn f1 [d])), bx := upd σ.bx d (some [c]), ev := σ.ev }
theorem sem_callB {o : Oper} {σ : St} {x : Operand} {asg : Array Operand} {ts : Array TypeId} {f f1 : FuncId} {d : Nat} {sz : Nat} {rows : List (List T)} (ho : o.op = .call ⟨.value x, asg, ts⟩) (hd : o.dst = some d)
    (h : MakesB P f f1) (hc : calleeOf (σ.get P 0 x) = some (f, [])) (hv : σ.gets P asg ts = [.one (.rn (.sl sz rows))]) (hb : σ.bx d = none) : StepSem P o σ (σ.callB d f1 (.rn (.sl sz rows))) := by
  intro n0 N g a w hR hn hdN
  obtain ⟨vs, h1, h2⟩ := call_run hR ho hc h.1
  rw [hv] at h2
  obtain ⟨v, vs', rfl, k1, k2⟩ := h2
  obtain rfl : vs' = [] := k2
  have k0 : CR σ g w (.rn (.sl sz rows)) v := k1
  simp only [VR, CR] at k1
  unfold RepV at k1
  obtain ⟨ao, cap, rfl, _⟩ := k1
  unfold Oper.wp
  rw [h1]
  refine (h.2 ao rows.length cap w).mono ?_
  rintro e w' ⟨ty, rfl, rfl⟩
  refine ⟨{ g with β := upd g.β d w.heap.size }, ?_, Bk.of_alloc hn _, rfl, rfl⟩
  have := (hR.newbox hn hb (cs := [.rn (.sl sz rows)]) (vs := [.slice ao rows.length cap]) ⟨_, _, rfl, k0, rfl⟩ ty).put (some d) (x := .one (.fn f1 [d])) (v := .func (.func f1) #[] #[.pointer (some ⟨w.heap.size, 0, none⟩)]) ⟨by simp [upd], by simp [upd]⟩ (fun i hi => by cases hi; exact hdN d hd)
  rw [hd]
  exact this
section
variable {ks : List Fr} {Q : Exit → St → Prop} {σ : St} {ops : Array Oper} {os : List Oper} {ty : TypeId} {ps : String} {af : Array Edge}
/-- The sequence of a slice's elements from behind. -/
theorem callB {d : Nat} {x : Operand} {asg : Array Operand} {ts : Array TypeId} {f f1 : FuncId} {sz : Nat} {rows : List (List T)} (h : MakesB P f f1) (hp : calleeOf (σ.get P 0 x) = some (f, []) ∧ σ.gets P asg ts = [.one (.rn (.sl sz rows))] ∧ σ.bx d = none)
    (k : exo P ops os ks Q (σ.callB d f1 (.rn (.sl sz rows)))) : exo P ops (⟨some d, .call ⟨.value x, asg, ts⟩, ty, ps, af, none⟩ :: os) ks Q σ :=
  exo_sem rfl rfl (sem_callB rfl rfl h hp.1 hp.2.1 hp.2.2) k
end
theorem owK_rn (t : T) (A B : Prop) : owK (.one (.rn t)) A B = B := by simp [owK, isOw]
attribute [go_sem] St.callB owK_rn
end Go.Proofs.Ytfppgpojemdijaa
/-
  A contract over slices that are not looked into, with what they hold put in their places.
  Conditions: none.
-/
namespace Go.Proofs.Ytfppgpojemdijaa
set_option linter.unusedSimpArgs false
set_option linter.unusedVariables false
set_option linter.unusedSectionVars false
set_option maxRecDepth 4000
open Go.RowKit
variable {P : Program}
mutual
/-- y is x with owned data in the place of slices that are not looked into; the data lies in the blocks ex. -/
def GrT (w : World) : T → T → List Nat → Prop
  | .vs a l c, y, ex => OwnV w y (.slice a l c) ex
  | .sl sz rows, y, ex => ∃ rows', y = .sl sz rows' ∧ GrRows w rows rows' ex
  | x, y, ex => y = x ∧ ex = []
def GrRows (w : World) : List (List T) → List (List T) → List Nat → Prop
  | [], ys, ex => ys = [] ∧ ex = []
  | r :: rs, ys, ex => ∃ r' rs' e1 e2, ys = r' :: rs' ∧ ex = e1 ++ e2 ∧ GrAt w r r' e1 ∧ GrRows w rs rs' e2
def GrAt (w : World) : List T → List T → List Nat → Prop
  | [], ys, ex => ys = [] ∧ ex = []
  | c :: cs, ys, ex => ∃ c' cs' e1 e2, ys = c' :: cs' ∧ ex = e1 ++ e2 ∧ GrT w c c' e1 ∧ GrAt w cs cs' e2
end
theorem GrRows.len {w : World} : ∀ {rs ys : List (List T)} {ex : List Nat}, GrRows w rs ys ex → ys.length = rs.length
  | [], ys, ex, h => by unfold GrRows at h; rw [h.1]
  | r :: rs, ys, ex, h => by
    unfold GrRows at h
    obtain ⟨r', rs', e1, e2, rfl, _, _, h2⟩ := h
    simp [h2.len]
theorem GrAt.len {w : World} : ∀ {rs ys : List T} {ex : List Nat}, GrAt w rs ys ex → ys.length = rs.length
  | [], ys, ex, h => by unfold GrAt at h; rw [h.1]
  | r :: rs, ys, ex, h => by
    unfold GrAt at h
    obtain ⟨r', rs', e1, e2, rfl, _, _, h2⟩ := h
    simp [h2.len]
theorem perm4 {f1 f2 e1 e2 g1 g2 : List Nat} (h : g1.Perm (f1 ++ e1)) (k : g2.Perm (f2 ++ e2)) : (g1 ++ g2).Perm ((f1 ++ f2) ++ (e1 ++ e2)) := by
  refine (h.append k).trans ?_
  rw [List.append_assoc, List.append_assoc]
  refine List.Perm.append_left f1 ?_
  rw [← List.append_assoc, ← List.append_assoc]
  exact List.Perm.append_right e2 List.perm_append_comm
mutual
theorem GrT.own {w : World} : ∀ (x y : T) (v : Value) (fp ex : List Nat), OwnV w x v fp → GrT w x y ex → ∃ fp', OwnV w y v fp' ∧ fp'.Perm (fp ++ ex)
  | .vs a l c, y, v, fp, ex, h, hg => by
    unfold GrT at hg
    unfold OwnV at h
    obtain ⟨rfl, rfl⟩ := h
    exact ⟨ex, hg, List.Perm.refl _⟩
  | .sl sz rows, y, v, fp, ex, h, hg => by
    unfold GrT at hg
    obtain ⟨rows', rfl, hg⟩ := hg
    unfold OwnV at h
    obtain ⟨ao, cap, h1, h2, h3, h4⟩ := h
    rcases h4 with ⟨rfl, rfl, rfl, rfl⟩ | ⟨b, cells, ty, fps, h4, rfl, h6, h7, h8⟩
    · unfold GrRows at hg
      obtain ⟨rfl, rfl⟩ := hg
      exact ⟨[], by unfold OwnV; exact ⟨none, 0, h1, h2, h3, Or.inl ⟨rfl, rfl, rfl, rfl⟩⟩, List.Perm.refl _⟩
    · obtain ⟨fps', k1, k2⟩ := GrRows.own cells 0 sz rows rows' fps ex h8 hg
      refine ⟨b :: fps', ?_, List.Perm.cons b k2⟩
      unfold OwnV
      exact ⟨ao, cap, by rw [hg.len]; exact h1, by rw [hg.len]; exact h2, h3, Or.inr ⟨b, cells, ty, fps', h4, rfl, h6, h7, k1⟩⟩
  | .int _ _, y, v, fp, ex, h, hg => by unfold GrT at hg; obtain ⟨rfl, rfl⟩ := hg; exact ⟨fp, h, by simp⟩
  | .bool _, y, v, fp, ex, h, hg => by unfold GrT at hg; obtain ⟨rfl, rfl⟩ := hg; exact ⟨fp, h, by simp⟩
  | .str _, y, v, fp, ex, h, hg => by unfold GrT at hg; obtain ⟨rfl, rfl⟩ := hg; exact ⟨fp, h, by simp⟩
  | .ptr _, y, v, fp, ex, h, hg => by unfold GrT at hg; obtain ⟨rfl, rfl⟩ := hg; exact ⟨fp, h, by simp⟩
  | .fn _ _, y, v, fp, ex, h, hg => by unfold GrT at hg; obtain ⟨rfl, rfl⟩ := hg; exact ⟨fp, h, by simp⟩
  | .mp _ _, y, v, fp, ex, h, hg => by unfold GrT at hg; obtain ⟨rfl, rfl⟩ := hg; exact ⟨fp, h, by simp⟩
  | .pin _ _, y, v, fp, ex, h, hg => by unfold GrT at hg; obtain ⟨rfl, rfl⟩ := hg; exact ⟨fp, h, by simp⟩
theorem GrRows.own {w : World} (cells : Array Value) : ∀ (o sz : Nat) (rs ys : List (List T)) (fps ex : List Nat), OwnRows w cells o sz rs fps → GrRows w rs ys ex → ∃ fps', OwnRows w cells o sz ys fps' ∧ fps'.Perm (fps ++ ex)
  | _, _, [], ys, fps, ex, h, hg => by unfold GrRows at hg; obtain ⟨rfl, rfl⟩ := hg; exact ⟨fps, h, by simp⟩
  | o, sz, r :: rs, ys, fps, ex, h, hg => by
    unfold GrRows at hg
    obtain ⟨r', rs', e1, e2, rfl, rfl, g1, g2⟩ := hg
    unfold OwnRows at h
    obtain ⟨h1, f1, f2, rfl, h2, h3⟩ := h
    obtain ⟨f1', k1, k2⟩ := GrAt.own cells o r r' f1 e1 h2 g1
    obtain ⟨f2', l1, l2⟩ := GrRows.own cells (o + sz) sz rs rs' f2 e2 h3 g2
    refine ⟨f1' ++ f2', ?_, perm4 k2 l2⟩
    unfold OwnRows
    exact ⟨by rw [g1.len]; exact h1, f1', f2', rfl, k1, l1⟩
theorem GrAt.own {w : World} (cells : Array Value) : ∀ (o : Nat) (cs ys : List T) (fps ex : List Nat), OwnAt w cells o cs fps → GrAt w cs ys ex → ∃ fps', OwnAt w cells o ys fps' ∧ fps'.Perm (fps ++ ex)
  | _, [], ys, fps, ex, h, hg => by unfold GrAt at hg; obtain ⟨rfl, rfl⟩ := hg; exact ⟨fps, h, by simp⟩
  | o, c :: cs, ys, fps, ex, h, hg => by
    unfold GrAt at hg
    obtain ⟨c', cs', e1, e2, rfl, rfl, g1, g2⟩ := hg
    unfold OwnAt at h
    obtain ⟨v, f1, f2, h1, rfl, h2, h3⟩ := h
    obtain ⟨f1', k1, k2⟩ := GrT.own c c' v f1 e1 h2 g1
    obtain ⟨f2', l1, l2⟩ := GrAt.own cells (o + 1) cs cs' f2 e2 h3 g2
    refine ⟨f1' ++ f2', ?_, perm4 k2 l2⟩
    unfold OwnAt
    exact ⟨v, f1', f2', h1, rfl, k1, l1⟩
end
theorem GrAt.ownG {w : World} : ∀ (cs ys : List T) (vs : List Value) (fp ex tp : List Nat), GAll w cs vs fp tp → GrAt w cs ys ex → ∃ fp' tp', GAll w ys vs fp' tp' ∧ fp'.Perm (fp ++ ex)
  | [], ys, vs, fp, ex, tp, h, hg => by unfold GrAt at hg; obtain ⟨rfl, rfl⟩ := hg; exact ⟨fp, tp, h, by simp⟩
  | c :: cs, ys, vs, fp, ex, tp, h, hg => by
    unfold GrAt at hg
    obtain ⟨c', cs', e1, e2, rfl, rfl, g1, g2⟩ := hg
    obtain ⟨v, vs', f1, f2, t2, rfl, rfl, rfl, h2, h3⟩ := h
    obtain ⟨f1', k1, k2⟩ := GrT.own c c' v f1 e1 h2 g1
    obtain ⟨f2', t2', l1, l2⟩ := GrAt.ownG cs cs' vs' f2 e2 t2 h3 g2
    exact ⟨f1' ++ f2', topT c' f1' ++ t2', ⟨v, vs', f1', f2', t2', rfl, rfl, rfl, k1, l1⟩, perm4 k2 l2⟩
def GrD (w : World) : D → D → List Nat → Prop
  | .one x, .one y, ex => GrT w x y ex
  | .agg xs, .agg ys, ex => GrAt w xs ys ex
  | _, _, _ => False
theorem GrD.own {w : World} {x y : D} {v : Value} {fp ex tp : List Nat} (h : GD w x v fp tp) (hg : GrD w x y ex) : ∃ fp' tp', GD w y v fp' tp' ∧ fp'.Perm (fp ++ ex) := by
  cases x with
  | one x =>
    cases y with
    | one y => obtain ⟨fp', h1, h2⟩ := GrT.own x y v fp ex h.1 hg; exact ⟨fp', _, ⟨h1, rfl⟩, h2⟩
    | agg _ => exact hg.elim
  | agg xs =>
    cases y with
    | one _ => exact hg.elim
    | agg ys => obtain ⟨a, rfl, h⟩ := h; obtain ⟨fp', tp', h1, h2⟩ := GrAt.ownG xs ys a fp ex tp h hg; exact ⟨fp', tp', ⟨a, rfl, h1⟩, h2⟩
/-- A contract over slices that are not looked into becomes one for given data. -/
theorem GC_of_graft {f : FuncId} {args : List (Bool × D)} {y : D} (hc : Callable P f)
    (h : ∀ (w : World) (vs : List Value) (fp tp : List Nat), GArgs w (fun b => b < w.heap.size ∧ b ∉ fp) args vs fp tp → fp.Nodup → ∃ (args' : List D) (x : D) (ex : List Nat), FC P f args' [x] ∧ RepDs w (fun b => b < w.heap.size) args' vs ∧
      ex.Nodup ∧ (∀ b ∈ ex, b ∈ fp ∧ b < w.heap.size) ∧ ∀ w' : World, (∀ b ∈ ex, w'.heap[b]? = w.heap[b]?) → GrD w' x y ex) : GC P f args [y] := by
  refine ⟨hc, fun w vs fp tp hv hn => ?_⟩
  obtain ⟨args', x, ex, hf, hr, hen, hlt, hg⟩ := h w vs fp tp hv hn
  have ha : GArgs w (fun b => b < w.heap.size ∧ b ∉ ([] : List Nat)) (rd args') vs [] [] := by
    clear hf hg hv
    induction args' generalizing vs with
    | nil => exact ⟨hr, rfl, rfl⟩
    | cons d ds ih =>
      obtain ⟨v, vs', rfl, h1, h2⟩ := hr
      refine ⟨v, vs', rfl, ?_, ih _ h2⟩
      have : RepDs w (fun b => b < w.heap.size ∧ b ∉ ([] : List Nat)) [d] [v] := RepDs.keep (fun _ _ => rfl) (fun b hb => ⟨hb, by simp⟩) (⟨v, [], rfl, h1, rfl⟩ : RepDs w (fun b => b < w.heap.size) [d] [v])
      obtain ⟨_, _, e, h3, _⟩ := this
      cases e; exact h3
  refine (hf.2 w vs [] [] ha List.nodup_nil).mono ?_
  rintro e w' ⟨us, fp', tp', rfl, k1, k2, k3, k4⟩
  obtain ⟨u, us', f1, f2, t1, t2, rfl, rfl, rfl, k5, k6⟩ := k1
  obtain ⟨rfl, rfl, rfl⟩ := k6
  obtain ⟨fp'', tp'', l1, l2⟩ := GrD.own k5 (hg w' fun b hb => k4.block b ⟨(hlt b hb).2, by simp⟩)
  have hnew : ∀ b ∈ f1, w.heap.size ≤ b := fun b hb => by simpa using k3 b (by simpa using hb)
  refine ⟨[u], fp'', tp'', rfl, ⟨u, [], fp'', [], tp'', [], rfl, by simp, by simp, l1, rfl, rfl, rfl⟩, ?_, fun b hb => ?_, ⟨k4.os, k4.tape, k4.output, k4.size, fun k hk => k4.block k ⟨hk.1, by simp⟩⟩⟩
  · refine l2.nodup_iff.2 (List.nodup_append.2 ⟨by simpa using k2, hen, fun a ha b hb e => ?_⟩)
    subst e
    have := hnew a ha; have := (hlt a hb).2; omega
  · rcases List.mem_append.1 (l2.mem_iff.1 hb) with hb | hb
    · exact Or.inr (hnew b hb)
    · exact Or.inl (hlt b hb).1
def anyAll (f : Nat → V) : List Nat → Prop
  | [] => True
  | i :: is => f i = .one .any ∧ anyAll f is
theorem anyAll_mem {f : Nat → V} : ∀ {l : List Nat}, anyAll f l → ∀ i ∈ l, f i = .one .any
  | [], _, i, hi => by simp at hi
  | j :: l, h, i, hi => by
    rcases List.mem_cons.1 hi with rfl | hi
    · exact h.1
    · exact anyAll_mem h.2 i hi
def RdB (P : Program) (bd : Code) (σ' : St) (e : Exit) (σ : St) : Prop := match e with
  | .normal => ex P bd [] (fun e σ => match e with | .normal => Wk σ σ' | _ => False) σ
  | _ => False
theorem loopB {N t p1 p2 : Nat} {asg bd q : Code} {Q : Exit → St → Prop} {σ : St} {F1 : FuncId} {ag : Bool} {sz : Nat} (hB : BackFn P F1 ag sz) (hc : Callable P F1) (id : Nat) (H : Nat → St) (rows : List (List T)) (h1 : (decide (p1 < N) && decide (p2 < N) && decide (t < 1000000)) = true) (h2 : (ag || sz == 1) = true)
    (h3 : ∀ k, (H k).sl t = .one (.fn F1 [id]) ∧ (H k).bx id = some [.rn (.sl sz rows)]) (h4 : ∀ k, anyAll (H k).sl (p1 :: p2 :: (dstsC asg ++ dstsC bd))) (h6 : Wk σ (H 0))
    (h5 : ∀ k, k < rows.length → ex P asg [] (RdB P bd (H (k + 1))) (((H k).put (some p1) (.one (.t (.int .i64 ((rows.length - 1 - k : Nat) : Int))))).put (some p2) (rowN ag (rows.getD (rows.length - 1 - k) []))))
    (h7 : ex P q [] Q (H rows.length)) : LoopB P N (.tmp t) #[p1, p2] asg bd q Q σ := by
  simp only [Bool.and_eq_true, decide_eq_true_eq, Bool.or_eq_true, beq_iff_eq] at h1 h2
  refine ⟨F1, ag, sz, t, p1, p2, id, H, rows, rfl, rfl, hB, hc, ⟨h1.1.1, h1.1.2, h1.2⟩, h2, h3, fun k => anyAll_mem (h4 k), fun k hk => ?_, h6, h7⟩
  refine exec_mono (fun e σ2 h => ?_) (h5 k hk)
  cases e with
  | normal =>
    refine ⟨rfl, exec_mono (fun e σ3 h => ?_) h⟩
    cases e with
    | normal => exact ⟨rfl, h⟩
    | exit _ => exact (show False from h).elim
    | goto _ => exact (show False from h).elim
    | ret => exact (show False from h).elim
    | panic _ => exact (show False from h).elim
    | outgrown => exact (show False from h).elim
  | exit _ => exact (show False from h).elim
  | goto _ => exact (show False from h).elim
  | ret => exact (show False from h).elim
  | panic _ => exact (show False from h).elim
  | outgrown => exact (show False from h).elim
def HdB (P : Program) (fn : Func) (res : List D) (g : Operand) (ps : Array Tmp) (asg bd q : Code) (e : Exit) (σ : St) : Prop := match e with
  | .normal => LoopB P fn.ntmps g ps asg bd q (PS P fn.results.toList res) σ
  | .ret => PS P fn.results.toList res .ret σ
  | _ => False
theorem HdB_normal (fn : Func) (res : List D) (g : Operand) (ps : Array Tmp) (asg bd q : Code) (σ : St) : HdB P fn res g ps asg bd q .normal σ = LoopB P fn.ntmps g ps asg bd q (PS P fn.results.toList res) σ := rfl
theorem HdB_ret (fn : Func) (res : List D) (g : Operand) (ps : Array Tmp) (asg bd q : Code) (σ : St) : HdB P fn res g ps asg bd q .ret σ = PS P fn.results.toList res .ret σ := rfl
theorem RdB_normal (bd : Code) (σ' σ : St) : RdB P bd σ' .normal σ = ex P bd [] (fun e σ => match e with | .normal => Wk σ σ' | _ => False) σ := rfl
theorem FC_ofBH {f : FuncId} {fn : Func} {c p q asg bd : Code} {g : Operand} {ps : Array Tmp} {args res : List D} (hc : Callable P f) (hf : P.funcs[f]? = some fn) (hb : fn.body = some c) (hs : splitRF c = some (p, (g, ps, asg, bd), q))
    (hd : (dstOk fn.ntmps p && dstOk fn.ntmps q && plainC q && (plainC asg && plainC bd && dstOk fn.ntmps asg && dstOk fn.ntmps bd)) = true) (hN : (rd args).length ≤ fn.ntmps)
    (h : ex P p [] (HdB P fn res g ps asg bd q) (initN args)) : FC P f args res :=
  FC_ofB hc hf hb hs hd hN (exec_mono (fun e σ h => by cases e <;> exact h) h)
attribute [go_sem] HdB_normal HdB_ret RdB_normal
end Go.Proofs.Ytfppgpojemdijaa
/-
  The walk over plain data: owned slices under other names.
  Conditions: none.
-/
namespace Go.Proofs.Ytfppgpojemdijaa
set_option linter.unusedSimpArgs false
set_option linter.unusedVariables false
set_option linter.unusedSectionVars false
set_option maxRecDepth 4000
open Go.RowKit
variable {P : Program}
def swp (a b e : Nat) : Nat := if e = a then b else if e = b then a else e
theorem swp_inv (a b e : Nat) : swp a b (swp a b e) = e := by unfold swp; split <;> (try split) <;> (try split) <;> omega
def C.ren (a b : Nat) : C → C
  | .ow e g => .ow (swp a b e) g
  | .eo e g sz i o => .eo (swp a b e) g sz i o
  | c => c
def V.ren (a b : Nat) : V → V
  | .one c => .one (c.ren a b)
  | .agg cs => .agg (cs.map (C.ren a b))
  | .tup xs => .tup (xs.map fun x => (x.1, x.2.map (C.ren a b)))
def St.ren (σ : St) (a b : Nat) : St := ⟨fun i => (σ.sl i).ren a b, fun k => (σ.bx k).map (·.map (C.ren a b)), fun e => σ.ev (swp a b e)⟩
def Gh.ren (g : Gh) (a b : Nat) : Gh := { g with ψ := fun e => g.ψ (swp a b e), φ := fun e => g.φ (swp a b e) }
theorem bx_ren {σ : St} {a b k : Nat} : (σ.ren a b).bx k ≠ none ↔ σ.bx k ≠ none := by unfold St.ren; simp
theorem has_ren {σ : St} {a b e n : Nat} (h : σ.has e n) : (σ.ren a b).has (swp a b e) n := by
  obtain ⟨x, h1, h2⟩ := h
  exact ⟨x, by show σ.ev (swp a b (swp a b e)) = _; rw [swp_inv]; exact h1, h2⟩
theorem fix_ren {σ : St} {g : Gh} {w : World} {a b : Nat} : Fix (σ.ren a b) (g.ren a b) w = Fix σ g w := by
  funext q
  refine propext ⟨fun h => ⟨fun k hk => h.1 k (bx_ren.2 hk), fun e x he ho => ?_, h.2.2⟩, fun h => ⟨fun k hk => h.1 k (bx_ren.1 hk), fun e x he ho => h.2.1 (swp a b e) x he ho, h.2.2⟩⟩
  have := h.2.1 (swp a b e) x (by show σ.ev (swp a b (swp a b e)) = _; rw [swp_inv]; exact he) ho
  have e2 : (g.ren a b).φ (swp a b e) = g.φ e := by show g.φ (swp a b (swp a b e)) = _; rw [swp_inv]
  rwa [e2] at this
theorem fr_ren {σ : St} {g : Gh} {w : World} {a b : Nat} : Free (σ.ren a b) (g.ren a b) w = Free σ g w := by
  funext q
  unfold Free
  rw [fix_ren]
  refine propext ⟨fun h => ⟨h.1, fun e ho hm => h.2 (swp a b e) ?_ ?_⟩, fun h => ⟨h.1, fun e ho hm => h.2 (swp a b e) ho hm⟩⟩
  · show σ.On (swp a b (swp a b e)); rw [swp_inv]; exact ho
  · show q ∈ g.φ (swp a b (swp a b e)); rw [swp_inv]; exact hm
theorem cr_ren {σ : St} {g : Gh} {w : World} {a b : Nat} {c : C} {v : Value} (h : CR σ g w c v) : CR (σ.ren a b) (g.ren a b) w (c.ren a b) v := by
  have hF := fix_ren (σ := σ) (g := g) (w := w) (a := a) (b := b)
  have hψ : ∀ e, (g.ren a b).ψ (swp a b e) = g.ψ e := fun e => by show g.ψ (swp a b (swp a b e)) = _; rw [swp_inv]
  cases c with
  | t x => show RepV _ _ _ _; rw [hF]; exact h
  | nl s => exact h
  | ow e n => exact ⟨by show v = (g.ren a b).ψ (swp a b e) n; rw [hψ]; exact h.1, has_ren h.2⟩
  | bx q o => exact ⟨h.1, bx_ren.2 h.2⟩
  | el cs o => obtain ⟨q, r, h1, h2, h3⟩ := h; exact ⟨q, r, h1, by rw [hF]; exact h2, by rw [hF]; exact h3⟩
  | eo e s sz i o => obtain ⟨q, n, c, h1, h2, h3, h4⟩ := h; exact ⟨q, n, c, by rw [hψ]; exact h1, h2, h3, has_ren h4⟩
  | fn f caps => exact ⟨h.1, fun q hq => bx_ren.2 (h.2 q hq)⟩
  | cv u => exact h
  | any => trivial
  | rn x => show RepV _ _ _ _; rw [fr_ren]; exact h
  | er cs o => obtain ⟨q, r, h1, h2, h3⟩ := h; exact ⟨q, r, h1, by rw [fr_ren]; exact h2, by rw [fr_ren]; exact h3⟩
theorem crs_ren {σ : St} {g : Gh} {w : World} {a b : Nat} : ∀ {cs : List C} {vs : List Value}, CRs σ g w cs vs → CRs (σ.ren a b) (g.ren a b) w (cs.map (C.ren a b)) vs
  | [], _, h => h
  | c :: cs, _, h => by obtain ⟨v, vs', rfl, h1, h2⟩ := h; exact ⟨v, vs', rfl, cr_ren h1, crs_ren h2⟩
theorem crt_ren {σ : St} {g : Gh} {w : World} {a b : Nat} : ∀ {xs : List (Bool × List C)} {vs : List Value}, CRt σ g w xs vs → CRt (σ.ren a b) (g.ren a b) w (xs.map fun x => (x.1, x.2.map (C.ren a b))) vs
  | [], _, h => h
  | x :: xs, _, h => by
    obtain ⟨v, vs', rfl, h1, h2⟩ := h
    refine ⟨v, vs', rfl, ?_, crt_ren h2⟩
    unfold CRx at h1 ⊢
    split at h1
    · rw [if_pos ‹_›]; obtain ⟨q, h3, h4⟩ := h1; exact ⟨q, h3, crs_ren h4⟩
    · rw [if_neg ‹_›]; obtain ⟨c, h3, h4⟩ := h1; exact ⟨c.ren a b, by simp [h3], cr_ren h4⟩
theorem vr_ren {σ : St} {g : Gh} {w : World} {a b : Nat} {x : V} {v : Value} (h : VR σ g w x v) : VR (σ.ren a b) (g.ren a b) w (x.ren a b) v := by
  cases x with
  | one c => exact cr_ren h
  | agg cs => obtain ⟨q, h1, h2⟩ := h; exact ⟨q, h1, crs_ren h2⟩
  | tup xs => obtain ⟨q, h1, h2⟩ := h; exact ⟨q, h1, crt_ren h2⟩
theorem on_ren {σ : St} {a b e : Nat} (h : (σ.ren a b).On e) : σ.On (swp a b e) := h
theorem Rel.ren {n0 : Nat → Prop} {N : Nat} {σ : St} {g : Gh} {ac : Act} {w : World} (h : Rel n0 N σ g ac w) (a b : Nat) : Rel n0 N (σ.ren a b) (g.ren a b) ac w := by
  have hF := fix_ren (σ := σ) (g := g) (w := w) (a := a) (b := b)
  refine ⟨h.defers, h.size, h.anew, fun i => vr_ren (h.slots i), fun k cs hk => ?_, fun k hk => h.base k (bx_ren.1 hk), fun k k' h1 h2 => h.inj k k' (bx_ren.1 h1) (bx_ren.1 h2), fun e x he ho => ?_, fun e x he ho => ?_, fun e n => h.slc (swp a b e) n, fun e he => h.ebase _ (on_ren he), fun e he => h.etop _ (on_ren he), fun e he => h.nodup _ (on_ren he), fun e e' he he' hne => h.apart _ _ (on_ren he) (on_ren he') (fun k => hne (by rw [← swp_inv a b e, k, swp_inv])), fun e k he hk => h.ebx _ k (on_ren he) (bx_ren.1 hk)⟩
  · obtain ⟨cs0, h1, rfl⟩ := Option.map_eq_some_iff.1 hk
    obtain ⟨vs, ty, k1, k2⟩ := h.boxes k cs0 h1
    exact ⟨vs, ty, k1, crs_ren k2⟩
  · rw [hF]; exact h.evs (swp a b e) x he ho
  · rw [hF]; exact h.offs (swp a b e) x he ho
theorem upds_ren (a b : Nat) : ∀ (l : List (Nat × V)) (i : Nat), (upds l i).ren a b = upds (l.map fun p => (p.1, p.2.ren a b)) i
  | [], i => rfl
  | (j, v) :: l, i => by
    simp only [List.map_cons, upds]
    split
    · rfl
    · exact upds_ren a b l i
theorem tbl_map {α β : Type} (f : α → β) : ∀ (l : List (Nat × α)) (i : Nat), (tbl l i).map f = tbl (l.map fun p => (p.1, f p.2)) i
  | [], i => rfl
  | (j, v) :: l, i => by
    simp only [List.map_cons, tbl]
    split
    · rfl
    · exact tbl_map f l i
theorem tbl_key {α : Type} (a b : Nat) : ∀ (l : List (Nat × α)) (i : Nat), tbl l (swp a b i) = tbl (l.map fun p => (swp a b p.1, p.2)) i
  | [], i => rfl
  | (j, v) :: l, i => by
    simp only [List.map_cons, tbl]
    by_cases h : swp a b i = j
    · rw [if_pos h, if_pos (by rw [← h, swp_inv])]
    · rw [if_neg h, if_neg (fun e => h (by rw [e, swp_inv]))]
      exact tbl_key a b l i
/-- The owned slices a and b under each other's names. -/
theorem wk_ren (a b : Nat) (l : List (Nat × V)) (bl : List (Nat × List C)) (el : List (Nat × Ev)) : Wk (hd l bl el) (hd (l.map fun p => (p.1, p.2.ren a b)) (bl.map fun p => (p.1, p.2.map (C.ren a b))) (el.map fun p => (swp a b p.1, p.2))) := fun n0 N g ac w hR => by
  have e : (hd l bl el).ren a b = hd (l.map fun p => (p.1, p.2.ren a b)) (bl.map fun p => (p.1, p.2.map (C.ren a b))) (el.map fun p => (swp a b p.1, p.2)) := by
    unfold hd St.ren
    simp only [St.mk.injEq]
    exact ⟨funext fun i => upds_ren a b l i, funext fun k => tbl_map _ bl k, funext fun e => tbl_key a b el e⟩
  exact ⟨g.ren a b, e ▸ hR.ren a b, rfl, rfl⟩
end Go.Proofs.Ytfppgpojemdijaa
/-
  The walk over plain data: what is still needed is named by slots; results that are only read from here on.
  Conditions: none.
-/
namespace Go.Proofs.Ytfppgpojemdijaa
set_option linter.unusedSimpArgs false
set_option linter.unusedVariables false
set_option linter.unusedSectionVars false
set_option maxRecDepth 4000
open Go.RowKit
variable {P : Program}
/- What is reached from slots. -/
def C.evs : C → List Nat
  | .ow e _ => [e]
  | .eo e _ _ _ _ => [e]
  | _ => []
def C.bxs : C → List Nat
  | .bx b _ => [b]
  | .fn _ caps => caps
  | _ => []
def V.alls : V → List C
  | .one c => [c]
  | .agg cs => cs
  | .tup xs => xs.flatMap (·.2)
def ins (x : Nat) : List Nat → List Nat
  | [] => [x]
  | y :: l => if x = y then y :: l else y :: ins x l
def insAll : List Nat → List Nat → List Nat
  | [], l => l
  | x :: xs, l => insAll xs (ins x l)
def noK (x : Nat) : List Nat → Bool
  | [] => true
  | y :: l => if x = y then false else noK x l
def dif (l : List Nat) : List Nat → List Nat
  | [] => []
  | x :: xs => if noK x l = true then x :: dif l xs else dif l xs
def bxsCs : List C → List Nat
  | [] => []
  | c :: cs => c.bxs ++ bxsCs cs
def evsCs : List C → List Nat
  | [] => []
  | c :: cs => c.evs ++ evsCs cs
def St.kb0 (σ : St) : List Nat → List Nat
  | [] => []
  | i :: L => insAll (bxsCs (σ.sl i).alls) (σ.kb0 L)
def St.kb1 (σ : St) : List Nat → List Nat
  | [] => []
  | b :: B => insAll (b :: bxsCs ((σ.bx b).getD [])) (σ.kb1 B)
/-- The boxes. -/
def St.KB (σ : St) (L : List Nat) : List Nat := σ.kb1 (σ.kb0 L)
def St.ke0 (σ : St) : List Nat → List Nat
  | [] => []
  | i :: L => insAll (evsCs (σ.sl i).alls) (σ.ke0 L)
def St.ke1 (σ : St) (l : List Nat) : List Nat → List Nat
  | [] => l
  | b :: B => insAll (evsCs ((σ.bx b).getD [])) (σ.ke1 l B)
/-- The owned slices. -/
def St.KE (σ : St) (L : List Nat) : List Nat := σ.ke1 (σ.ke0 L) (σ.KB L)
def St.lL (σ : St) (L : List Nat) : List (Nat × V) := L.map fun i => (i, σ.sl i)
def St.lB (σ : St) (B : List Nat) : List (Nat × List C) := B.map fun b => (b, (σ.bx b).getD [])
def St.lE (σ : St) (E : List Nat) : List (Nat × Ev) := E.map fun e => (e, (σ.ev e).getD ⟨false, 0, [], 0, false⟩)
/-- What the slots L hold, and no more. -/
def St.hL (σ : St) (L : List Nat) : St := hd (σ.lL L) (σ.lB (σ.KB L)) (σ.lE (σ.KE L))
def wkK (σ : St) (L : List Nat) : Prop := wkL σ (σ.hL L) (σ.lL L) ∧ wkB σ (σ.hL L) (σ.lB (σ.KB L)) ∧ wkE σ (σ.lE (σ.KE L))
theorem wkK_wk {σ : St} {L : List Nat} (h : wkK σ L) : Wk σ (σ.hL L) := weak_hd h
section
variable {ks : List Fr} {Q : Exit → St → Prop} {σ : St} {ops : Array Oper} {os : List Oper} {ty : TypeId} {ps : String} {af : Array Edge} {dst : Option Nat} {x : Operand} {asx : Array Operand} {ts : Array TypeId} {f : FuncId}
/-- A call that turns what it was given, however deep: of all else only the slots L are looked at from here on. -/
theorem callIdL {pre : List D} {d : D} {post : List D} {d' : D} {res : List D} (L : List Nat) (h : IC P f pre d post d' res) (hw : wkK σ L)
    (hd1 : ((σ.lL L).all fun p => p.2.mOk) = true) (hd2 : ((σ.lB (σ.KB L)).all fun p => p.2.all C.mOk) = true) (hd3 : ((σ.lE (σ.KE L)).all fun p => p.2.on && p.2.deep) = true)
    (hp : onSome (calleeOf ((σ.hL L).get P 0 x)) fun p => p.1 = f ∧ spI ((σ.hL L).gets P asx ts ++ p.2) pre.length fun p1 gv p2 => nmVs p1 pre ∧ nmVs p2 post ∧ inG (σ.hL L) gv d d') (hr : res.all D.fl = true)
    (k : exo P ops os ks Q ((σ.hL L).cI P x asx ts pre.length dst d' res)) : exo P ops (⟨dst, .call ⟨.value x, asx, ts⟩, ty, ps, af, none⟩ :: os) ks Q σ :=
  callId h hw hd1 hd2 hd3 hp hr k
/-- A call that is given what stands in the slots A; the slots L stay. -/
theorem callGL {d : Nat} {ds : List (Bool × D)} {res : List D} (L A : List Nat) (pl : List (Nat × Nat × Nat)) (h : GC P f ds res)
    (hw : wkL σ (hd (σ.lL A ++ σ.lL L) (σ.lB (dif (σ.KB L) (σ.KB A)) ++ σ.lB (σ.KB L)) (σ.lE (dif (σ.KE L) (σ.KE A)) ++ σ.lE (σ.KE L))) (σ.lL A ++ σ.lL L) ∧ wkB σ (hd (σ.lL A ++ σ.lL L) (σ.lB (dif (σ.KB L) (σ.KB A)) ++ σ.lB (σ.KB L)) (σ.lE (dif (σ.KE L) (σ.KE A)) ++ σ.lE (σ.KE L))) (σ.lB (dif (σ.KB L) (σ.KB A)) ++ σ.lB (σ.KB L)) ∧ wkE σ (σ.lE (dif (σ.KE L) (σ.KE A)) ++ σ.lE (σ.KE L)))
    (hk : noKeys (σ.lL L) (σ.lL A) ∧ noKeys (σ.lB (σ.KB L)) (σ.lB (dif (σ.KB L) (σ.KB A))) ∧ noKeys (σ.lE (σ.KE L)) (σ.lE (dif (σ.KE L) (σ.KE A))) ∧ okL (σ.hL L) (σ.lL L) ∧ okB (σ.hL L) (σ.lB (σ.KB L)) ∧ okE (σ.lE (σ.KE L)))
    (hp : onSome (calleeOf ((hd (σ.lL A ++ σ.lL L) (σ.lB (dif (σ.KB L) (σ.KB A)) ++ σ.lB (σ.KB L)) (σ.lE (dif (σ.KE L) (σ.KE A)) ++ σ.lE (σ.KE L))).get P 0 x)) fun p => p.1 = f ∧ gvA (hd (σ.lL A ++ σ.lL L) (σ.lB (dif (σ.KB L) (σ.KB A)) ++ σ.lB (σ.KB L)) (σ.lE (dif (σ.KE L) (σ.KE A)) ++ σ.lE (σ.KE L))) (srOut (σ.lE (σ.KE L))) [] pl ((hd (σ.lL A ++ σ.lL L) (σ.lB (dif (σ.KB L) (σ.KB A)) ++ σ.lB (σ.KB L)) (σ.lE (dif (σ.KE L) (σ.KE A)) ++ σ.lE (σ.KE L))).gets P asx ts ++ p.2) ds)
    (hf : freeE d 0 (resCells res) (σ.hL L).ev) (k : exo P ops os ks Q ((σ.hL L).callF d res)) : exo P ops (⟨some d, .call ⟨.value x, asx, ts⟩, ty, ps, af, none⟩ :: os) ks Q σ :=
  callG (σ.lL A) (σ.lL L) _ _ _ _ pl h hw hk hp hf k

/- Results that are only read from here on. -/
theorem toN_vr' {σ : St} {g : Gh} {w : World} {d : D} {v : Value} (h : RepD w (Free σ g w) d v) : VR σ g w d.toN v := toN_vr (fun _ h => h) h
theorem RepDs.vrlN {σ : St} {g : Gh} {w : World} : ∀ {ds : List D} {us : List Value}, RepDs w (Free σ g w) ds us → VRl σ g w (ds.map D.toN) us
  | [], us, h => h
  | d :: ds, us, h => by
    obtain ⟨u, us', rfl, h1, h2⟩ := h
    exact ⟨u, us', rfl, toN_vr' h1, RepDs.vrlN h2⟩
theorem OwnDs.rep {w : World} {A : Nat → Prop} : ∀ {ds : List D} {us : List Value} {fp : List Nat}, OwnDs w ds us fp → (∀ b ∈ fp, A b) → RepDs w A ds us
  | [], us, fp, h, _ => h.1
  | .one t :: ds, us, fp, h, hA => by
    obtain ⟨v, vs', f1, f2, rfl, rfl, h1, h2⟩ := h
    exact ⟨v, vs', rfl, OwnV.rep t v f1 h1 fun b hb => hA b (by simp [hb]), OwnDs.rep h2 fun b hb => hA b (by simp [hb])⟩
  | .agg ts :: ds, us, fp, h, hA => by
    obtain ⟨v, vs', f1, f2, rfl, rfl, ⟨y, rfl, h1⟩, h2⟩ := h
    exact ⟨_, vs', rfl, ⟨y, rfl, h1.rep fun b hb => hA b (by simp [hb])⟩, OwnDs.rep h2 fun b hb => hA b (by simp [hb])⟩
theorem OwnAll.lt {w : World} : ∀ {cs : List T} {vs : List Value} {fps : List Nat}, OwnAll w cs vs fps → ∀ b ∈ fps, b < w.heap.size
  | [], _, _, h, b, hb => by rw [h.2] at hb; simp at hb
  | c :: cs, _, _, h, b, hb => by
    obtain ⟨v, vs', f1, f2, rfl, rfl, h1, h2⟩ := h
    rcases List.mem_append.1 hb with hb | hb
    · exact OwnV.lt c v f1 h1 b hb
    · exact OwnAll.lt h2 b hb
theorem OwnDs.ltD {w : World} : ∀ {ds : List D} {us : List Value} {fp : List Nat}, OwnDs w ds us fp → ∀ b ∈ fp, b < w.heap.size
  | [], us, fp, h, b, hb => by rw [h.2] at hb; simp at hb
  | .one t :: ds, us, fp, h, b, hb => by
    obtain ⟨v, vs', f1, f2, rfl, rfl, h1, h2⟩ := h
    rcases List.mem_append.1 hb with hb | hb
    · exact OwnV.lt t v f1 h1 b hb
    · exact OwnDs.ltD h2 b hb
  | .agg ts :: ds, us, fp, h, b, hb => by
    obtain ⟨v, vs', f1, f2, rfl, rfl, ⟨y, rfl, h1⟩, h2⟩ := h
    rcases List.mem_append.1 hb with hb | hb
    · exact OwnAll.lt h1 b hb
    · exact OwnDs.ltD h2 b hb
/-- New blocks that the state does not speak of are held by no owned slice. -/
theorem Rel.frNew {n0 : Nat → Prop} {N : Nat} {σ : St} {g : Gh} {a : Act} {w w' : World} (hR : Rel n0 N σ g a w) (hn : LtK n0 w) {b : Nat} (h1 : w.heap.size ≤ b) (h2 : b < w'.heap.size) : Free σ g w' b := by
  refine ⟨⟨fun k hk e => by have := hR.lt hk; omega, fun e x hx ho hh => ?_, h2, (hR.anew b (hn.new h1)).1⟩, fun e ⟨x, hx, ho⟩ hm => ?_⟩
  · have := (hR.evs e x hx ho).lt b (List.mem_of_mem_head? hh); omega
  · have := (hR.evs e x hx ho).lt b hm; omega
def St.callN (σ : St) (d : Option Nat) (res : List D) : St := σ.put d (tupV (res.map D.toN))
theorem toN_tup (res : List D) : ∀ y ∈ res.map D.toN, y.isTup = false := fun y hy => by
  obtain ⟨d, _, rfl⟩ := List.mem_map.1 hy
  cases d <;> rfl
theorem sem_callFr {o : Oper} {x : Operand} {asx : Array Operand} {ts : Array TypeId} {f : FuncId} {cvs : List V} {ds res : List D} (ho : o.op = .call ⟨.value x, asx, ts⟩)
    (h : FC P f ds res) (hc : calleeOf (σ.get P 0 x) = some (f, cvs)) (hv : VDs σ (σ.gets P asx ts ++ cvs) ds) : StepSem P o σ (σ.callN o.dst res) := by
  intro n0 N g a w hR hn hdN
  obtain ⟨vs, h1, h2⟩ := call_run hR ho hc h.1
  unfold Oper.wp
  rw [h1]
  refine (h.use (VDs.rep hR hv h2)).mono ?_
  rintro e w' ⟨us, fp, rfl, o1, o2, o3, hb⟩
  have hR' : Rel n0 N σ g a w' := hR.after hn hb (New.refl σ g (w.heap.size ≤ ·) w' hR.slc)
  refine ⟨g, ?_, Bk.of_below hb hn, rfl, rfl⟩
  exact hR'.put o.dst (tupV_vr (RepDs.vrlN (o1.rep fun b hb' => hR.frNew hn (o3 b hb') (o1.ltD b hb'))) (toN_tup res)) hdN
/-- A call that returns fresh data, which is only read from here on. -/
theorem callFr {ds res : List D} (h : FC P f ds res) (hp : onSome (calleeOf (σ.get P 0 x)) fun p => p.1 = f ∧ VDs σ (σ.gets P asx ts ++ p.2) ds)
    (k : exo P ops os ks Q (σ.callN dst res)) : exo P ops (⟨dst, .call ⟨.value x, asx, ts⟩, ty, ps, af, none⟩ :: os) ks Q σ := by
  obtain ⟨⟨f', cvs⟩, h1, rfl, h2⟩ := onSome_ex hp
  exact exo_sem rfl rfl (sem_callFr rfl h h1 h2) k
theorem rdC_fr {g : Gh} {w : World} {c : C} {t : T} {v : Value} (h : rdC c t) (hv : CR σ g w c v) : RepV w (Free σ g w) t v := by
  unfold rdC at h
  split at h
  · rename_i x
    obtain ⟨rfl, hn⟩ := h
    exact nmV_rep (σ := σ) (g := g) (x := .one (.t x)) (d := .one x) ⟨rfl, hn⟩ hv _
  · rename_i f f'
    subst h
    exact nmV_rep (σ := σ) (g := g) (x := .one (.fn f [])) (d := .one (.fn f [])) rfl hv _
  · subst h; exact hv
  · obtain ⟨rfl, rfl⟩ := h
    obtain ⟨b, q, h1, h2, h3⟩ := hv
    unfold RepV
    exact ⟨b, q, h1, h2, h3⟩
  · subst h
    rw [show v = .slice none 0 0 from hv]
    unfold RepV
    exact ⟨none, 0, rfl, by simp, by simp, Or.inl rfl⟩
  · exact h.elim
theorem rdCs_fr {g : Gh} {w : World} : ∀ {cs : List C} {ts : List T} {vs : List Value}, rdCs cs ts → CRs σ g w cs vs → RepAll w (Free σ g w) ts vs
  | [], [], vs, _, hv => by unfold RepAll; exact hv
  | [], _ :: _, _, h, _ => h.elim
  | _ :: _, [], _, h, _ => h.elim
  | c :: cs, t :: ts, vs, h, hv => by
    obtain ⟨v, vs', rfl, h1, h2⟩ := hv
    unfold RepAll
    exact ⟨v, vs', rfl, rdC_fr h.1 h1, rdCs_fr h.2 h2⟩
theorem rdV_fr {g : Gh} {w : World} {x : V} {d : D} {v : Value} (h : rdV x d) (hv : VR σ g w x v) : RepD w (Free σ g w) d v := by
  unfold rdV at h
  split at h
  · exact rdC_fr h hv
  · obtain ⟨b, e, hv⟩ := hv; exact ⟨b, e, rdCs_fr h hv⟩
  · exact h.elim
def rdVs : List V → List D → Prop
  | [], ds => ds = []
  | v :: vs, ds => ∃ d ds', ds = d :: ds' ∧ rdV v d ∧ rdVs vs ds'
theorem rdVs_cons (v : V) (vs : List V) (d : D) (ds : List D) : rdVs (v :: vs) (d :: ds) = (rdV v d ∧ rdVs vs ds) := by
  refine propext ⟨fun ⟨_, _, e, h⟩ => ?_, fun h => ⟨d, ds, rfl, h⟩⟩
  cases e; exact h
theorem rdVs_nil : rdVs [] [] = True := by simp [rdVs]
theorem rdVs_fr {g : Gh} {w : World} : ∀ {xs : List V} {ds : List D}, rdVs xs ds → ∀ {vs : List Value}, VRl σ g w xs vs → RepDs w (Free σ g w) ds vs
  | [], ds, h, vs, hv => by rw [show ds = [] from h]; exact hv
  | x :: xs, ds, h, vs, hv => by
    obtain ⟨d, ds', rfl, h1, h2⟩ := h
    obtain ⟨v, vs', rfl, k1, k2⟩ := hv
    exact ⟨v, vs', rfl, rdV_fr h1 k1, rdVs_fr h2 k2⟩
theorem sem_callRn {o : Oper} {x : Operand} {asx : Array Operand} {ts : Array TypeId} {f : FuncId} {cvs : List V} {ds res : List D} (ho : o.op = .call ⟨.value x, asx, ts⟩)
    (h : RC P f ds res) (hc : calleeOf (σ.get P 0 x) = some (f, cvs)) (hv : rdVs (σ.gets P asx ts ++ cvs) ds) : StepSem P o σ (σ.callN o.dst res) := by
  intro n0 N g a w hR hn hdN
  obtain ⟨vs, h1, h2⟩ := call_run hR ho hc h.1
  unfold Oper.wp
  rw [h1]
  have hargs := (rdVs_fr hv h2).keep (A' := fun b => b < w.heap.size ∧ Free σ g w b) (fun _ _ => rfl) fun b hb => ⟨hb.1.2.2.1, hb⟩
  refine (h.2 w vs (Free σ g w) hargs).mono ?_
  rintro e w' ⟨us, rfl, o1, hb⟩
  have hR' : Rel n0 N σ g a w' := hR.after hn hb (New.refl σ g (w.heap.size ≤ ·) w' hR.slc)
  refine ⟨g, ?_, Bk.of_below hb hn, rfl, rfl⟩
  refine hR'.put o.dst (tupV_vr (RepDs.vrlN (o1.keep (fun _ _ => rfl) fun b hb' => ?_)) (toN_tup res)) hdN
  rcases hb'.2 with hf | hf
  · exact ⟨⟨hf.1.1, hf.1.2.1, hb'.1, hf.1.2.2.2⟩, hf.2⟩
  · exact hR.frNew hn hf hb'.1
/-- A call whose results are read, and which no owned slice holds. -/
theorem callRn {ds res : List D} (h : RC P f ds res) (hp : onSome (calleeOf (σ.get P 0 x)) fun p => p.1 = f ∧ rdVs (σ.gets P asx ts ++ p.2) ds)
    (k : exo P ops os ks Q (σ.callN dst res)) : exo P ops (⟨dst, .call ⟨.value x, asx, ts⟩, ty, ps, af, none⟩ :: os) ks Q σ := by
  obtain ⟨⟨f', cvs⟩, h1, rfl, h2⟩ := onSome_ex hp
  exact exo_sem rfl rfl (sem_callRn rfl h h1 h2) k
end
/- The state at a function's beginning: what is only read is held by no owned slice. -/
def gVN (k : Nat) : Bool × D → V
  | (false, d) => d.toN
  | (true, d) => gV k (true, d)
def initSN : Nat → List (Bool × D) → Nat → V
  | _, [] => fun _ => .one .any
  | k, d :: ds => upd (initSN (k + 1) ds) k (gVN k d)
def initGN (args : List (Bool × D)) : St := ⟨initSN 0 args, fun _ => none, initE 0 args⟩
theorem initSN_at : ∀ (ds : List (Bool × D)) (k i : Nat), initSN k ds (k + i) = match ds[i]? with | some d => gVN (k + i) d | none => .one .any
  | [], k, i => by simp [initSN]
  | d :: ds, k, 0 => by simp [initSN, upd]
  | d :: ds, k, i + 1 => by
    unfold initSN
    rw [upd_ne _ _ (by omega), show k + (i + 1) = k + 1 + i by omega, initSN_at ds (k + 1) i]
    simp
theorem GArgs.atR {w : World} {A : Nat → Prop} : ∀ {ds : List (Bool × D)} {vs : List Value} {fp tp : List Nat}, GArgs w A ds vs fp tp → ∀ (i : Nat) d, ds[i]? = some (false, d) → ∃ v, vs[i]? = some v ∧ RepD w A d v
  | [], _, _, _, _, i, d, h => by simp at h
  | (false, e) :: ds, _, _, _, h, 0, d, hi => by
    obtain ⟨v, vs', rfl, h1, _⟩ := h
    simp only [List.getElem?_cons_zero, Option.some.injEq, Prod.mk.injEq, true_and] at hi
    subst hi
    exact ⟨v, rfl, h1⟩
  | (true, e) :: ds, _, _, _, h, 0, d, hi => by simp at hi
  | (false, e) :: ds, _, _, _, h, i + 1, d, hi => by
    obtain ⟨v, vs', rfl, _, h2⟩ := h
    simpa using GArgs.atR h2 i d (by simpa using hi)
  | (true, e) :: ds, _, _, _, h, i + 1, d, hi => by
    obtain ⟨v, vs', f1, f2, t1, t2, rfl, rfl, rfl, _, h2⟩ := h
    simpa using GArgs.atR h2 i d (by simpa using hi)
theorem Rel.frOld {n0 : Nat → Prop} {N : Nat} {σ : St} {g : Gh} {a : Act} {w : World} (h : Rel n0 N σ g a w) {b : Nat} (h1 : n0 b) (h2 : b < w.heap.size) (h3 : g.A0 b) : Free σ g w b :=
  ⟨⟨fun k hk e => h.base k hk (e ▸ h1), fun e x hx ho hh => h.etop e ⟨x, hx, ho⟩ b (List.mem_of_mem_head? hh) h1, h2, h3⟩, fun e ho hm => h.etop e ho b hm h1⟩
theorem initGN_rel {args : List (Bool × D)} {w : World} {vs : List Value} {fp tp : List Nat} {N : Nat} {g : Gh} {a : Act} (hv : GArgs w (fun b => b < w.heap.size ∧ b ∉ fp) args vs fp tp) (hR : Rel (fun b => b < w.heap.size ∧ b ∉ fp) N (initG args) g a w)
    (ht : a.tmps = (⟨vs⟩ : Array Value) ++ Array.replicate (N - vs.length) undef) (hA : ∀ b, g.A0 b) : Rel (fun b => b < w.heap.size ∧ b ∉ fp) N (initGN args) g a w := by
  have hm : Mv (initG args) (initGN args) g g w w := Mv.of_eq g w rfl rfl
  refine hR.slots_of (σ' := initGN args) rfl rfl hR.defers hR.size fun i => ?_
  refine (Mv.of_eq (σ := initGN args) (σ' := initG args) g w rfl rfl).vr (σ := initGN args) ?_
  have hi := initSN_at args 0 i
  rw [Nat.zero_add] at hi
  show VR _ _ _ (initSN 0 args i) _
  rw [hi]
  cases hd : args[i]? with
  | none => trivial
  | some p =>
    obtain ⟨b, d⟩ := p
    cases b with
    | true =>
      have h0 := hm.vr (hR.slots i)
      have hj := initS_at args 0 i
      rw [Nat.zero_add, hd] at hj
      have h0' : VR (initGN args) g w (initS 0 args i) (a.tmps.getD i (g.R0.ξ i)) := h0
      rw [hj] at h0'
      exact h0'
    | false =>
      obtain ⟨v, hv1, hv2⟩ := GArgs.atR hv i d hd
      have hlt : i < vs.length := (List.getElem?_eq_some_iff.1 hv1).1
      have e : a.tmps.getD i (g.R0.ξ i) = v := by
        rw [ht, Array.getD_eq_getD_getElem?, Array.getElem?_append_left (by simpa using hlt)]
        simp [hv1]
      rw [e]
      exact hm.vr (toN_vr (fun b hb => hR.frOld hb hb.1 (hA b)) hv2)
theorem GC_ofN {f : FuncId} {fn : Func} {c : Code} {args : List (Bool × D)} {res : List D} (hc : Callable P f) (hf : P.funcs[f]? = some fn) (hb : fn.body = some c) (hd : dstOk fn.ntmps c = true) (hN : args.length ≤ fn.ntmps) (hs : smallG args)
    (h : ex P c [] (PS P fn.results.toList res) (initGN args)) : GC P f args res :=
  GC_ofW hc hf hb hd hN hs fun w vs fp tp hv g a hR hg => ⟨_, h, initGN_rel hv hR hg.1 fun b => by rw [(Prod.mk.inj hg.2).1]; trivial⟩
/- Names of owned slices, turned. -/
def renL (a b : Nat) (l : List (Nat × V)) : List (Nat × V) := l.map fun p => (p.1, p.2.ren a b)
def renB (a b : Nat) (l : List (Nat × List C)) : List (Nat × List C) := l.map fun p => (p.1, p.2.map (C.ren a b))
def renE (a b : Nat) (l : List (Nat × Ev)) : List (Nat × Ev) := l.map fun p => (swp a b p.1, p.2)
theorem cren_ren (a b : Nat) (c : C) : (c.ren a b).ren a b = c := by cases c <;> simp [C.ren, swp_inv]
theorem cren_map (a b : Nat) (cs : List C) : (cs.map (C.ren a b)).map (C.ren a b) = cs := by
  rw [List.map_map]; exact (List.map_congr_left fun c _ => cren_ren a b c).trans (List.map_id cs)
theorem vren_ren (a b : Nat) (v : V) : (v.ren a b).ren a b = v := by
  cases v with
  | one c => simp [V.ren, cren_ren]
  | agg cs => simp only [V.ren, cren_map]
  | tup xs =>
    simp only [V.ren, List.map_map]
    congr 1
    exact (List.map_congr_left fun x _ => by simp only [Function.comp, cren_map]; rfl).trans (List.map_id xs)
/-- What is forgotten, the owned slices a and b under each other's names. -/
theorem weak_ren (a b : Nat) {σ : St} {l : List (Nat × V)} {bl : List (Nat × List C)} {el : List (Nat × Ev)} (h : wkL σ (hd (renL a b l) (renB a b bl) (renE a b el)) (renL a b l) ∧ wkB σ (hd (renL a b l) (renB a b bl) (renE a b el)) (renB a b bl) ∧ wkE σ (renE a b el)) : Wk σ (hd l bl el) := by
  have h1 := (weak_hd h).trans (wk_ren a b _ _ _)
  have e1 : (renL a b l).map (fun p => (p.1, p.2.ren a b)) = l := by
    unfold renL; rw [List.map_map]; exact (List.map_congr_left fun p _ => by simp only [Function.comp, vren_ren]; rfl).trans (List.map_id l)
  have e2 : (renB a b bl).map (fun p => (p.1, p.2.map (C.ren a b))) = bl := by
    unfold renB; rw [List.map_map]; exact (List.map_congr_left fun p _ => by simp only [Function.comp, cren_map]; rfl).trans (List.map_id bl)
  have e3 : (renE a b el).map (fun p => (swp a b p.1, p.2)) = el := by
    unfold renE; rw [List.map_map]; exact (List.map_congr_left fun p _ => by simp only [Function.comp, swp_inv]; rfl).trans (List.map_id el)
  rw [e1, e2, e3] at h1
  exact h1
attribute [go_sem] C.evs C.bxs V.alls ins insAll noK dif bxsCs evsCs St.kb0 St.kb1 St.KB St.ke0 St.ke1 St.KE St.lL St.lB St.lE St.hL wkK St.callN rdVs_nil rdVs_cons gVN initSN initGN renL renB renE C.ren V.ren swp
end Go.Proofs.Ytfppgpojemdijaa
/-
  The walk over plain data: results of which some are the call's own and some are only read; a pointer to a box among the arguments.
  Conditions: none.
-/
namespace Go.Proofs.Ytfppgpojemdijaa
set_option linter.unusedSimpArgs false
set_option linter.unusedVariables false
set_option linter.unusedSectionVars false
set_option maxRecDepth 4000
open Go.RowKit
variable {P : Program}
theorem GArgs.append {w : World} {A : Nat → Prop} : ∀ {d1 d2 : List (Bool × D)} {v1 v2 : List Value} {f1 f2 t1 t2 : List Nat}, GArgs w A d1 v1 f1 t1 → GArgs w A d2 v2 f2 t2 → GArgs w A (d1 ++ d2) (v1 ++ v2) (f1 ++ f2) (t1 ++ t2)
  | [], _, _, _, _, _, _, _, h, k => by obtain ⟨rfl, rfl, rfl⟩ := h; exact k
  | (true, d) :: ds, _, _, _, _, _, _, _, h, k => by
    obtain ⟨v, vs', g1, g2, s1, s2, rfl, rfl, rfl, h1, h2⟩ := h
    exact ⟨v, _, g1, _, s1, _, rfl, by rw [List.append_assoc], by rw [List.append_assoc], h1, GArgs.append h2 k⟩
  | (false, d) :: ds, _, _, _, _, _, _, _, h, k => by
    obtain ⟨v, vs', rfl, h1, h2⟩ := h
    exact ⟨v, _, rfl, h1, GArgs.append h2 k⟩
theorem GArgs.len {w : World} {A : Nat → Prop} : ∀ {ds : List (Bool × D)} {vs : List Value} {fp tp : List Nat}, GArgs w A ds vs fp tp → vs.length = ds.length
  | [], _, _, _, h => by rw [h.1]; rfl
  | (true, d) :: ds, _, _, _, h => by obtain ⟨v, vs', _, _, _, _, rfl, rfl, rfl, _, h2⟩ := h; simp [GArgs.len h2]
  | (false, d) :: ds, _, _, _, h => by obtain ⟨v, vs', rfl, _, h2⟩ := h; simp [GArgs.len h2]
theorem GArgs.split {w : World} {A : Nat → Prop} : ∀ {d1 d2 : List (Bool × D)} {vs : List Value} {fp tp : List Nat}, GArgs w A (d1 ++ d2) vs fp tp → ∃ v1 v2 f1 f2 t1 t2, vs = v1 ++ v2 ∧ fp = f1 ++ f2 ∧ tp = t1 ++ t2 ∧ GArgs w A d1 v1 f1 t1 ∧ GArgs w A d2 v2 f2 t2
  | [], d2, vs, fp, tp, h => ⟨[], vs, [], fp, [], tp, rfl, rfl, rfl, ⟨rfl, rfl, rfl⟩, h⟩
  | (true, d) :: ds, d2, _, _, _, h => by
    obtain ⟨v, vs', g1, g2, s1, s2, rfl, rfl, rfl, h1, h2⟩ := h
    obtain ⟨v1, v2, f1, f2, t1, t2, rfl, rfl, rfl, k1, k2⟩ := GArgs.split h2
    exact ⟨v :: v1, v2, g1 ++ f1, f2, s1 ++ t1, t2, rfl, by rw [List.append_assoc], by rw [List.append_assoc], ⟨v, v1, g1, f1, s1, t1, rfl, rfl, rfl, h1, k1⟩, k2⟩
  | (false, d) :: ds, d2, _, _, _, h => by
    obtain ⟨v, vs', rfl, h1, h2⟩ := h
    obtain ⟨v1, v2, f1, f2, t1, t2, rfl, rfl, rfl, k1, k2⟩ := GArgs.split h2
    exact ⟨v :: v1, v2, f1, f2, t1, t2, rfl, rfl, rfl, ⟨v, v1, rfl, h1, k1⟩, k2⟩
/- Cells, some owned, some only read. -/
def flatM : List (Bool × D) → List (Bool × T)
  | [] => []
  | (b, .one t) :: ds => (b, t) :: flatM ds
  | (b, .agg ts) :: ds => ts.map (fun t => (b, t)) ++ flatM ds
def bxA (box : List (Bool × T)) : List (Bool × D) := box.map fun p => (p.1, .one p.2)
theorem flatM_bxA : ∀ box : List (Bool × T), flatM (bxA box) = box
  | [] => rfl
  | p :: box => by show (p.1, p.2) :: flatM (bxA box) = _; rw [flatM_bxA box]
theorem GAll.ones {w : World} {A : Nat → Prop} : ∀ {ts : List T} {vs : List Value} {fp tp : List Nat}, GAll w ts vs fp tp → GArgs w A (bxA (ts.map fun t => (true, t))) vs fp tp
  | [], _, _, _, h => h
  | t :: ts, _, _, _, h => by
    obtain ⟨v, vs', f1, f2, t2, rfl, rfl, rfl, h1, h2⟩ := h
    exact ⟨v, vs', f1, f2, _, t2, rfl, rfl, rfl, ⟨h1, rfl⟩, GAll.ones h2⟩
theorem RepAll.ones {w : World} {A : Nat → Prop} : ∀ {ts : List T} {vs : List Value}, RepAll w A ts vs → GArgs w A (bxA (ts.map fun t => (false, t))) vs [] []
  | [], _, h => by unfold RepAll at h; exact ⟨h, rfl, rfl⟩
  | t :: ts, _, h => by
    unfold RepAll at h
    obtain ⟨v, vs', rfl, h1, h2⟩ := h
    exact ⟨v, vs', rfl, h1, RepAll.ones h2⟩
theorem bxA_append (a b : List (Bool × T)) : bxA (a ++ b) = bxA a ++ bxA b := List.map_append
theorem RepV.cells1 {w : World} {A : Nat → Prop} {t : T} {v : Value} (h : RepV w A t v) : v.cells = #[v] := (RepV.one h).2
theorem GArgs.flat {w : World} {A : Nat → Prop} : ∀ {ds : List (Bool × D)} {vs : List Value} {fp tp : List Nat}, GArgs w A ds vs fp tp → ∃ tp', GArgs w A (bxA (flatM ds)) (vs.flatMap fun u => u.cells.toList) fp tp'
  | [], _, _, _, h => by obtain ⟨rfl, rfl, rfl⟩ := h; exact ⟨[], rfl, rfl, rfl⟩
  | (true, .one t) :: ds, _, _, _, h => by
    obtain ⟨v, vs', f1, f2, t1, t2, rfl, rfl, rfl, h1, h2⟩ := h
    obtain ⟨tp', h2⟩ := GArgs.flat h2
    have e : (v :: vs').flatMap (fun u => u.cells.toList) = v :: vs'.flatMap fun u => u.cells.toList := by
      have h1' : OwnV w t v f1 := h1.1
      simp [h1'.one]
    exact ⟨t1 ++ tp', v, _, f1, f2, t1, tp', e, rfl, rfl, h1, h2⟩
  | (false, .one t) :: ds, _, _, _, h => by
    obtain ⟨v, vs', rfl, h1, h2⟩ := h
    obtain ⟨tp', h2⟩ := GArgs.flat h2
    have e : (v :: vs').flatMap (fun u => u.cells.toList) = v :: vs'.flatMap fun u => u.cells.toList := by
      have h1' : RepV w A t v := h1
      simp [h1'.cells1]
    exact ⟨tp', v, _, e, h1, h2⟩
  | (true, .agg ts) :: ds, _, _, _, h => by
    obtain ⟨v, vs', f1, f2, t1, t2, rfl, rfl, rfl, ⟨a, rfl, h1⟩, h2⟩ := h
    obtain ⟨tp', h2⟩ := GArgs.flat h2
    refine ⟨t1 ++ tp', ?_⟩
    show GArgs w A (bxA (ts.map (fun t => (true, t)) ++ flatM ds)) (a ++ vs'.flatMap fun u => u.cells.toList) _ _
    rw [bxA_append]
    exact GArgs.append h1.ones h2
  | (false, .agg ts) :: ds, _, _, _, h => by
    obtain ⟨v, vs', rfl, ⟨a, rfl, h1⟩, h2⟩ := h
    obtain ⟨tp', h2⟩ := GArgs.flat h2
    refine ⟨[] ++ tp', ?_⟩
    show GArgs w A (bxA (ts.map (fun t => (false, t)) ++ flatM ds)) (a ++ vs'.flatMap fun u => u.cells.toList) _ _
    rw [bxA_append]
    exact GArgs.append h1.ones h2
/- New cells, by their numbers. -/
def mC1 (d j : Nat) : Bool × T → C
  | (true, t) => owC d j t
  | (false, t) => t.toN
def mC (d : Nat) : Nat → List (Bool × T) → List C
  | _, [] => []
  | j, p :: ts => mC1 d j p :: mC d (j + 1) ts
def mE (d : Nat) : Nat → List (Bool × T) → (Nat → Option Ev) → (Nat → Option Ev)
  | _, [], f => f
  | j, (true, t) :: ts, f => mE d (j + 1) ts (owE1 d j f t)
  | j, (false, _) :: ts, f => mE d (j + 1) ts f
def mF (d : Nat) : Nat → List (Bool × T) → (Nat → Option Ev) → Prop
  | _, [], _ => True
  | j, (true, t) :: ts, f => free1 d j f t ∧ mF d (j + 1) ts (owE1 d j f t)
  | j, (false, _) :: ts, f => mF d (j + 1) ts f
def mD (d : Nat) : Nat → List (Bool × D) → List V
  | _, [] => []
  | j, (b, .one t) :: ds => .one (mC1 d j (b, t)) :: mD d (j + 1) ds
  | j, (b, .agg ts) :: ds => .agg (mC d j (ts.map fun t => (b, t))) :: mD d (j + ts.length) ds
theorem mC_len (d : Nat) : ∀ (ts : List (Bool × T)) (j : Nat), (mC d j ts).length = ts.length
  | [], _ => rfl
  | t :: ts, j => by simp [mC, mC_len d ts]
theorem mC_append (d : Nat) : ∀ (t1 t2 : List (Bool × T)) (j : Nat), mC d j (t1 ++ t2) = mC d j t1 ++ mC d (j + t1.length) t2
  | [], _, _ => by simp [mC]
  | t :: ts, t2, j => by simp only [List.cons_append, mC, mC_append d ts t2 (j + 1), List.length_cons]; rw [show j + 1 + ts.length = j + (ts.length + 1) by omega]
theorem mD_tup (d : Nat) : ∀ (ds : List (Bool × D)) (j : Nat), ∀ x ∈ mD d j ds, x.isTup = false
  | [], _, x, hx => by simp [mD] at hx
  | (_, .one t) :: ds, j, x, hx => by
    simp only [mD, List.mem_cons] at hx
    rcases hx with rfl | hx
    · rfl
    · exact mD_tup d ds _ x hx
  | (_, .agg ts) :: ds, j, x, hx => by
    simp only [mD, List.mem_cons] at hx
    rcases hx with rfl | hx
    · rfl
    · exact mD_tup d ds _ x hx
theorem owE1_keep (d j : Nat) {f : Nat → Option Ev} {t : T} (hf : free1 d j f t) {e : Nat} (he : f e ≠ none) : owE1 d j f t e = f e := by
  cases t <;> first | rfl | skip
  rename_i sz rows
  exact upd_ne _ _ fun h => he (by rw [h]; exact hf)
theorem New.mix {τ : St} {g : Gh} {NB : Nat → Prop} {w' : World} {A : Nat → Prop} (d : Nat) : ∀ (ts : List (Bool × T)) (vs : List Value) (fp tp : List Nat) (j : Nat) (ev' : Nat → Option Ev) (g' : Gh) (F : List Nat), New τ g NB w' ev' g' F → mF d j ts ev' → GArgs w' A (bxA ts) vs fp tp → fp.Nodup → (∀ b ∈ fp, NB b ∧ b ∉ F) →
    ∃ g'', New τ g NB w' (mE d j ts ev') g'' (F ++ fp) ∧ (∀ e, ev' e ≠ none → mE d j ts ev' e = ev' e ∧ g''.ψ e = g'.ψ e) ∧ ∀ (σ' : St) (w'' : World), σ'.ev = mE d j ts ev' → (∀ t v, RepV w' A t v → RepV w'' (Free σ' g'' w'') t v) → CRs σ' g'' w'' (mC d j ts) vs
  | [], vs, fp, tp, j, ev', g', F, hN, hf, ho, hd, hb => by
    obtain ⟨rfl, rfl, rfl⟩ := ho
    exact ⟨g', by simpa [mE] using hN, fun e _ => ⟨rfl, rfl⟩, fun _ _ _ _ => rfl⟩
  | (false, t) :: ts, vs, fp, tp, j, ev', g', F, hN, hf, ho, hd, hb => by
    obtain ⟨v, vs', rfl, h1, h2⟩ := ho
    obtain ⟨g'', k1, k2, k3⟩ := New.mix d ts vs' fp tp (j + 1) ev' g' F hN hf h2 hd hb
    exact ⟨g'', k1, k2, fun σ' w'' hσ hr => ⟨v, vs', rfl, toN_cr' (hr t v h1), k3 σ' w'' hσ hr⟩⟩
  | (true, t) :: ts, vs, fp, tp, j, ev', g', F, hN, hf, ho, hd, hb => by
    obtain ⟨v, vs', f1, f2, t1, t2, rfl, rfl, rfl, ⟨h1, _⟩, h2⟩ := ho
    obtain ⟨hf1, hf2⟩ := hf
    obtain ⟨hd1, hd2, hd3⟩ := List.nodup_append.1 hd
    have h1 : OwnV w' t v f1 := h1
    by_cases hfl : t.flat = true
    · have hz : f1 = [] ∧ owC d j t = .t t ∧ owE1 d j ev' t = ev' ∧ ∀ (σ' : St) (g'' : Gh) (w'' : World), CR σ' g'' w'' (.t t) v := by
        cases t <;> simp only [T.flat, Bool.false_eq_true] at hfl
        · unfold OwnV at h1; exact ⟨h1.2.2.2, rfl, rfl, fun _ _ _ => by simp only [CR, RepV]; exact ⟨h1.1, h1.2.1, h1.2.2.1⟩⟩
        · unfold OwnV at h1; exact ⟨h1.2, rfl, rfl, fun _ _ _ => by simp only [CR, RepV]; exact h1.1⟩
        · unfold OwnV at h1; exact ⟨h1.2.2, rfl, rfl, fun _ _ _ => by simp only [CR, RepV]; exact ⟨h1.1, h1.2.1⟩⟩
        · unfold OwnV at h1; exact ⟨h1.2, rfl, rfl, fun _ _ _ => by simp only [CR, RepV]; exact h1.1⟩
      obtain ⟨rfl, c2, c3, c4⟩ := hz
      rw [c3] at hf2
      obtain ⟨g'', k1, k2, k3⟩ := New.mix d ts vs' f2 t2 (j + 1) ev' g' F hN hf2 h2 hd2 (fun b hb' => hb b (by simp [hb']))
      refine ⟨g'', by simpa [mE, c3] using k1, fun e he => by simpa [mE, c3] using k2 e he, fun σ' w'' hσ hr => ⟨v, vs', rfl, ?_, k3 σ' w'' (by simpa [mE, c3] using hσ) hr⟩⟩
      show CR σ' g'' w'' (owC d j t) v
      rw [c2]; exact c4 _ _ _
    · cases t <;> simp only [T.flat, Bool.false_eq_true, not_false_eq_true, not_true] at hfl
      · rename_i sz rows
        have hi' : ev' (d * 32 + j) = none := hf1
        have hi : τ.ev (d * 32 + j) = none := by
          cases hx : τ.ev (d * 32 + j) with
          | none => rfl
          | some x => have := (hN.old (d * 32 + j) (by rw [hx]; simp)).1; rw [hi', hx] at this; cases this
        have hadd := hN.add hi hi' h1 (fun b hb' => (hb b (by simp [hb'])).1) hd1 (fun b hb' => (hb b (by simp [hb'])).2)
        obtain ⟨g'', k1, k2, k3⟩ := New.mix d ts vs' f2 t2 (j + 1) _ _ _ hadd hf2 h2 hd2 (fun b hb' => ⟨(hb b (by simp [hb'])).1, by
            have := (hb b (by simp [hb'])).2
            simp only [List.mem_append, not_or]
            exact ⟨this, fun hf => hd3 b hf b hb' rfl⟩⟩)
        refine ⟨g'', by simpa [mE, owE1] using k1, fun e he => ?_, fun σ' w'' hσ hr => ⟨v, vs', rfl, ?_, k3 σ' w'' hσ hr⟩⟩
        · have hne : e ≠ d * 32 + j := fun h => he (h ▸ hi')
          have := k2 e (by rw [upd_ne _ _ hne]; exact he)
          simp only [upd_ne _ _ hne] at this
          exact this
        · have := k2 (d * 32 + j) (by rw [upd_same]; simp)
          simp only [upd_same] at this
          exact ⟨by rw [this.2], _, by rw [hσ]; exact this.1, Nat.zero_le _⟩
      · unfold OwnV at h1; exact h1.elim
      · unfold OwnV at h1; exact h1.elim
      · unfold OwnV at h1; exact h1.elim
      · exact (show False from hf1).elim
/-- The results, put together again. -/
theorem mD_vr {σ : St} {g : Gh} {w w1 : World} {A : Nat → Prop} (d : Nat) : ∀ {ds : List (Bool × D)} {us : List Value} {fp tp : List Nat} (j : Nat), GArgs w1 A ds us fp tp → CRs σ g w (mC d j (flatM ds)) (us.flatMap fun u => u.cells.toList) → VRl σ g w (mD d j ds) us
  | [], us, fp, tp, j, h, _ => h.1
  | (true, .one t) :: ds, us, fp, tp, j, h, k => by
    obtain ⟨v, vs', f1, f2, t1, t2, rfl, rfl, rfl, h1, h2⟩ := h
    have hv : OwnV w1 t v f1 := h1.1
    simp only [List.flatMap_cons, hv.one, flatM, mC] at k
    obtain ⟨u, us', e, k1, k2⟩ := k
    simp only [List.cons_append, List.nil_append, List.cons.injEq] at e
    obtain ⟨rfl, rfl⟩ := e
    exact ⟨v, vs', rfl, k1, mD_vr d (j + 1) h2 k2⟩
  | (false, .one t) :: ds, us, fp, tp, j, h, k => by
    obtain ⟨v, vs', rfl, h1, h2⟩ := h
    have hv : RepV w1 A t v := h1
    simp only [List.flatMap_cons, hv.cells1, flatM, mC] at k
    obtain ⟨u, us', e, k1, k2⟩ := k
    simp only [List.cons_append, List.nil_append, List.cons.injEq] at e
    obtain ⟨rfl, rfl⟩ := e
    exact ⟨v, vs', rfl, k1, mD_vr d (j + 1) h2 k2⟩
  | (true, .agg ts) :: ds, us, fp, tp, j, h, k => by
    obtain ⟨v, vs', f1, f2, t1, t2, rfl, rfl, rfl, ⟨x, rfl, h1⟩, h2⟩ := h
    simp only [List.flatMap_cons, Value.cells, flatM, mC_append] at k
    obtain ⟨v1, v2, e, k1, k2⟩ := k.split
    have hl : x.length = v1.length := by rw [k1.len, mC_len, List.length_map]; exact OwnAll.len (OwnAll.of_g h1)
    obtain ⟨e1, e2⟩ := List.append_inj e hl
    subst e1 e2
    rw [List.length_map] at k2
    exact ⟨_, vs', rfl, ⟨x, rfl, k1⟩, mD_vr d (j + ts.length) h2 k2⟩
  | (false, .agg ts) :: ds, us, fp, tp, j, h, k => by
    obtain ⟨v, vs', rfl, ⟨x, rfl, h1⟩, h2⟩ := h
    simp only [List.flatMap_cons, Value.cells, flatM, mC_append] at k
    obtain ⟨v1, v2, e, k1, k2⟩ := k.split
    have hl : x.length = v1.length := by rw [k1.len, mC_len, List.length_map]; exact h1.len
    obtain ⟨e1, e2⟩ := List.append_inj e hl
    subst e1 e2
    rw [List.length_map] at k2
    exact ⟨_, vs', rfl, ⟨x, rfl, k1⟩, mD_vr d (j + ts.length) h2 k2⟩
theorem gvA_free {σ : St} {g : Gh} {w : World} {n0 : Nat → Prop} {N : Nat} {a : Act} (hR : Rel n0 N σ g a w) {B : Sr → List Nat} (hB : Fam w σ g B) {K : List Sr → Prop} : ∀ {xs : List V} {ds : List (Bool × D)} {u : List Sr} {ps : List (Nat × Nat × Nat)} {vs : List Value}, gvA σ K u ps xs ds → VRl σ g w xs vs →
    ∃ s, K (s.reverse ++ u) ∧ (∃ tp, GArgs w (Free σ g w) ds vs (bks B s) tp) ∧ (∀ x ∈ s, σ.On x.1) ∧ (u.Pairwise okP → (s.reverse ++ u).Pairwise okP)
  | [], [], u, ps, vs, h, hv => ⟨[], h, ⟨[], hv, rfl, rfl⟩, by simp, fun h => h⟩
  | [], _ :: _, _, _, _, h, _ => h.elim
  | x :: xs, [], _, _, _, h, _ => by cases x <;> exact h.elim
  | x :: xs, (false, d) :: ds, u, ps, vs, h, hv => by
    obtain ⟨v, vs', rfl, h1, h2⟩ := hv
    unfold gvA at h
    obtain ⟨hr, h⟩ := h
    obtain ⟨s, k1, ⟨tp, k2⟩, k3, k4⟩ := gvA_free hR hB h h2
    exact ⟨s, k1, ⟨tp, v, vs', rfl, rdV_fr hr h1, k2⟩, k3, k4⟩
  | .one c :: xs, (true, .one t) :: ds, u, ps, vs, h, hv => by
    obtain ⟨v, vs', rfl, h1, h2⟩ := hv
    unfold gvA at h
    obtain ⟨s, ps', tp, k1, k2, k3, k4⟩ := gvK_sound hR hB h (vs := [v]) ⟨v, [], rfl, h1, rfl⟩
    obtain ⟨s', j1, ⟨tp', j2⟩, j3, j4⟩ := gvA_free hR hB k1 h2
    obtain ⟨v0, vs0, f1, f2, t2, e0, e1, rfl, q1, q2⟩ := k2
    cases e0
    obtain ⟨_, rfl, rfl⟩ := q2
    rw [List.append_nil] at e1
    refine ⟨s ++ s', by simpa using j1, ⟨topT t f1 ++ tp', v, vs', bks B s, bks B s', _, tp', rfl, by unfold bks; rw [List.flatMap_append], rfl, ⟨by rw [e1]; exact q1, by rw [e1]⟩, j2⟩, fun x hx => ?_, fun hu => by simpa using j4 (k4 hu)⟩
    rcases List.mem_append.1 hx with hx | hx
    · exact k3 x hx
    · exact j3 x hx
  | .agg cs :: xs, (true, .agg ts) :: ds, u, ps, vs, h, hv => by
    obtain ⟨v, vs', rfl, ⟨y, rfl, h1⟩, h2⟩ := hv
    unfold gvA at h
    obtain ⟨s, ps', tp, k1, k2, k3, k4⟩ := gvK_sound hR hB h h1
    obtain ⟨s', j1, ⟨tp', j2⟩, j3, j4⟩ := gvA_free hR hB k1 h2
    refine ⟨s ++ s', by simpa using j1, ⟨tp ++ tp', _, vs', bks B s, bks B s', tp, tp', rfl, by unfold bks; rw [List.flatMap_append], rfl, ⟨y, rfl, k2⟩, j2⟩, fun x hx => ?_, fun hu => by simpa using j4 (k4 hu)⟩
    rcases List.mem_append.1 hx with hx | hx
    · exact k3 x hx
    · exact j3 x hx
  | .one _ :: _, (true, .agg _) :: _, _, _, _, h, _ => h.elim
  | .agg _ :: _, (true, .one _) :: _, _, _, _, h, _ => h.elim
  | .tup _ :: _, (true, d) :: _, _, _, _, h, _ => by cases d <;> exact h.elim
/-- The call returns data of which some lies in blocks of its own, some in blocks that are only read. -/
def XC (P : Program) (f : FuncId) (args res : List (Bool × D)) : Prop := Callable P f ∧ ∀ (w : World) (vs : List Value) (fp tp : List Nat) (A : Nat → Prop), GArgs w (fun k => (k < w.heap.size ∧ k ∉ fp) ∧ A k) args vs fp tp → fp.Nodup →
  Calls P f ⟨vs⟩ w fun e w' => ∃ us fp' tp', e = .returned (resVal us) ∧ GArgs w' (fun k => (k < w'.heap.size ∧ k ∉ fp') ∧ (A k ∨ w.heap.size ≤ k ∨ k ∈ fp)) res us fp' tp' ∧ fp'.Nodup ∧ (∀ b ∈ fp', b ∈ fp ∨ w.heap.size ≤ b) ∧ Bk (fun k => k < w.heap.size ∧ k ∉ fp) w w'
/-- What is returned: some is the call's own, some is only read. -/
def PM0 (P : Program) (rs : List ResultVar) (res : List (Bool × D)) (pl : List (Nat × Nat × Nat)) (σ : St) : Prop := onSome (resList P σ rs) fun vs => gvA σ (fun _ => True) [] pl vs res
def PM (P : Program) (rs : List ResultVar) (res : List (Bool × D)) (e : Exit) (σ : St) : Prop := match e with
  | .normal => PM0 P rs res [] σ ∨ ∃ pl, PM0 P rs res pl σ
  | .ret => PM0 P rs res [] σ ∨ ∃ pl, PM0 P rs res pl σ
  | _ => False
theorem initGN_relB {args : List (Bool × D)} {w : World} {vs : List Value} {fp tp : List Nat} {N : Nat} {g : Gh} {a : Act} {B : Nat → Prop} (hv : GArgs w B args vs fp tp) (hR : Rel (fun b => b < w.heap.size ∧ b ∉ fp) N (initG args) g a w)
    (ht : a.tmps = (⟨vs⟩ : Array Value) ++ Array.replicate (N - vs.length) undef) (hB : ∀ b, B b → (b < w.heap.size ∧ b ∉ fp) ∧ g.A0 b) : Rel (fun b => b < w.heap.size ∧ b ∉ fp) N (initGN args) g a w := by
  have hm : Mv (initG args) (initGN args) g g w w := Mv.of_eq g w rfl rfl
  refine hR.slots_of (σ' := initGN args) rfl rfl hR.defers hR.size fun i => ?_
  refine (Mv.of_eq (σ := initGN args) (σ' := initG args) g w rfl rfl).vr (σ := initGN args) ?_
  have hi := initSN_at args 0 i
  rw [Nat.zero_add] at hi
  show VR _ _ _ (initSN 0 args i) _
  rw [hi]
  cases hd : args[i]? with
  | none => trivial
  | some p =>
    obtain ⟨b, d⟩ := p
    cases b with
    | true =>
      have h0 := hm.vr (hR.slots i)
      have hj := initS_at args 0 i
      rw [Nat.zero_add, hd] at hj
      have h0' : VR (initGN args) g w (initS 0 args i) (a.tmps.getD i (g.R0.ξ i)) := h0
      rw [hj] at h0'
      exact h0'
    | false =>
      obtain ⟨v, hv1, hv2⟩ := GArgs.atR hv i d hd
      have hlt : i < vs.length := (List.getElem?_eq_some_iff.1 hv1).1
      have e : a.tmps.getD i (g.R0.ξ i) = v := by
        rw [ht, Array.getD_eq_getD_getElem?, Array.getElem?_append_left (by simpa using hlt)]
        simp [hv1]
      rw [e]
      exact hm.vr (toN_vr (fun b hb => hR.frOld (hB b hb).1 (hB b hb).1.1 (hB b hb).2) hv2)
theorem XC_of {f : FuncId} {fn : Func} {c : Code} {args res : List (Bool × D)} (hc : Callable P f) (hf : P.funcs[f]? = some fn) (hb : fn.body = some c) (hd : dstOk fn.ntmps c = true) (hN : args.length ≤ fn.ntmps) (hs : smallG args)
    (h : ex P c [] (PM P fn.results.toList res) (initGN args)) : XC P f args res := by
  refine ⟨hc, fun w vs fp tp A hv hn => ?_⟩
  refine calls_of_wp hf hb ?_
  have hv' : GArgs w (fun b => b < w.heap.size ∧ A b ∧ b ∉ fp) args vs fp tp := GArgs.keepA (fun b hb => ⟨hb.1.1, hb.2, hb.1.2⟩) hv
  obtain ⟨g, hg, hR⟩ := Rel.start (A0 := fun b => A b ∨ w.heap.size ≤ b ∨ b ∈ fp) (R0 := RP.of fun b => b ∈ fp ∨ w.heap.size ≤ b) (N := fn.ntmps) hv' hn hs hN (fun _ h => Or.inl h) (fun b hb => ⟨Or.inr (Or.inr hb), Or.inl hb⟩) (fun b hb => by
    by_cases hlt : b < w.heap.size
    · have hm : b ∈ fp := Classical.byContradiction fun h => hb ⟨hlt, h⟩
      exact ⟨Or.inr (Or.inr hm), Or.inl hm⟩
    · exact ⟨Or.inr (Or.inl (by omega)), Or.inr (by omega)⟩)
  have hR0 := initGN_relB hv' hR rfl (fun b hb => ⟨⟨hb.1, hb.2.2⟩, by rw [(Prod.mk.inj hg).1]; exact Or.inl hb.2.1⟩)
  refine wp_mono (exec_sound (w0 := w) c (initGN args) _ hd h g _ w hR0 (fun k hk => hk.1) (Bk.refl _ _) hg) fun e a' w' hq => ?_
  obtain ⟨σ', g', h1, h2, h3, h4, h5⟩ := hq
  have key : (∃ pl, PM0 P fn.results.toList res pl σ') → ∃ v, (results fn a'.tmps).run P w' = .ok v w' ∧ ∃ us fp' tp', Ending.returned v = .returned (resVal us) ∧ GArgs w' (fun k => (k < w'.heap.size ∧ k ∉ fp') ∧ (A k ∨ w.heap.size ≤ k ∨ k ∈ fp)) res us fp' tp' ∧ fp'.Nodup ∧ (∀ b ∈ fp', b ∈ fp ∨ w.heap.size ≤ b) ∧ Bk (fun k => k < w.heap.size ∧ k ∉ fp) w w' := by
    rintro ⟨pl, hk⟩
    obtain ⟨vs, hvs, hk⟩ := onSome_ex hk
    obtain ⟨us, r1, r2⟩ := results_run h2 fn hvs
    obtain ⟨B, hB⟩ := h2.fam
    obtain ⟨s, k1, ⟨tp', k2⟩, k3, k4⟩ := gvA_free h2 hB hk r2
    rw [List.append_nil] at k4
    have hsp : s.Pairwise okP := (List.pairwise_reverse.1 (k4 List.Pairwise.nil)).imp fun h => h.symm
    have hin : ∀ b ∈ bks B s, ∃ e, σ'.On e ∧ b ∈ g'.φ e := fun b hb => by
      obtain ⟨x, hx, hm⟩ := List.mem_flatMap.1 hb
      exact ⟨x.1, k3 x hx, hB.sub x.1 x.2 b (k3 x hx) hm⟩
    have hA : ∀ b, Free σ' g' w' b → (b < w'.heap.size ∧ b ∉ bks B s) ∧ (A b ∨ w.heap.size ≤ b ∨ b ∈ fp) := fun b hb => by
      refine ⟨⟨hb.1.2.2.1, fun hm => ?_⟩, ?_⟩
      · obtain ⟨e, ho, hm⟩ := hin b hm
        exact hb.2 e ho hm
      · have := hb.1.2.2.2
        rw [(Prod.mk.inj h5).1] at this
        exact this
    refine ⟨_, r1, us, bks B s, tp', rfl, GArgs.keepA hA k2, bks_nodup h2 hB k3 hsp, fun b hb => ?_, h4⟩
    obtain ⟨e, ho, hm⟩ := hin b hb
    have := (h2.ebase e ho b hm).2
    rw [(Prod.mk.inj h5).2] at this
    exact this
  have key' : ∀ {Y : Prop}, (PM0 P fn.results.toList res [] σ' ∨ ∃ pl, PM0 P fn.results.toList res pl σ') → ((∃ pl, PM0 P fn.results.toList res pl σ') → Y) → Y := fun h k => h.elim (fun h => k ⟨[], h⟩) k
  cases e with
  | normal => exact ⟨h2.defers, key' h1 key⟩
  | ret => exact ⟨h2.defers, key' h1 key⟩
  | exit _ => exact h1.elim
  | goto _ => exact h1.elim
  | panic _ => exact h1.elim
  | outgrown => exact h1.elim
/-- The state behind a call whose results are partly owned. -/
def St.callX (σ : St) (d : Nat) (res : List (Bool × D)) : St := { sl := upd σ.sl d (tupV (mD d 0 res)), bx := σ.bx, ev := mE d 0 (flatM res) σ.ev }
theorem sem_callX {o : Oper} {σ τ : St} {x : Operand} {asx : Array Operand} {ts : Array TypeId} {f : FuncId} {cvs : List V} {d : Nat} {ds res : List (Bool × D)} {ps : List (Nat × Nat × Nat)} (ho : o.op = .call ⟨.value x, asx, ts⟩) (hd : o.dst = some d)
    (h : XC P f ds res) (hc : calleeOf (σ.get P 0 x) = some (f, cvs)) (hK : Kept σ τ) (hv : gvA σ (fun u => ∀ s ∈ u, τ.ev s.1 = none) [] ps (σ.gets P asx ts ++ cvs) ds) (hf : mF d 0 (flatM res) τ.ev) : StepSem P o σ (τ.callX d res) := by
  intro n0 N g a w hR hn hdN
  obtain ⟨vs, h1, h2⟩ := call_run hR ho hc h.1
  unfold Oper.wp
  rw [h1]
  obtain ⟨B, hB⟩ := hR.fam
  obtain ⟨s, k1, ⟨tp, k2⟩, k3, k4⟩ := gvA_free hR hB hv h2
  rw [List.append_nil] at k1 k4
  have hsp : s.Pairwise okP := (List.pairwise_reverse.1 (k4 List.Pairwise.nil)).imp fun h => h.symm
  have hnd := bks_nodup hR hB k3 hsp
  have hfp : ∀ b ∈ bks B s, ∃ e, σ.On e ∧ τ.ev e = none ∧ b ∈ g.φ e := fun b hb => by
    obtain ⟨x, hx, hm⟩ := List.mem_flatMap.1 hb
    exact ⟨x.1, k3 x hx, k1 x (List.mem_reverse.2 hx), hB.sub x.1 x.2 b (k3 x hx) hm⟩
  have hfn : ∀ b, Free σ g w b → b ∉ bks B s := fun b hb hm => by obtain ⟨e, h1, _, h3⟩ := hfp b hm; exact hb.2 e h1 h3
  refine (h.2 w vs (bks B s) tp (Free σ g w) (GArgs.keepA (fun b hb => ⟨⟨hb.1.2.2.1, hfn b hb⟩, hb⟩) k2) hnd).mono ?_
  rintro e w' ⟨us, fp', tp', rfl, o1, o2, o3, hbk⟩
  obtain ⟨tp2, o1'⟩ := o1.flat
  obtain ⟨g', q1, q2, q3⟩ := New.mix (τ := τ) (g := g) (NB := fun b => b ∈ bks B s ∨ w.heap.size ≤ b) (w' := w') d (flatM res) _ fp' tp2 0 τ.ev g [] (New.refl _ _ _ _ hR.slc) hf o1' o2 (fun b hb' => ⟨o3 b hb', by simp⟩)
  have hR' := hR.given hn hK hfp hbk q1
  have hBk : Bk n0 w w' := ⟨hbk.os, hbk.tape, hbk.output, hbk.size, fun k hk => hbk.block k ⟨hn k hk, fun hm => by
    obtain ⟨e, h1, _, h3⟩ := hfp k hm
    exact hR.etop e h1 k h3 hk⟩⟩
  -- what is read lies in no owned slice
  have hfree : ∀ k, ((k < w'.heap.size ∧ k ∉ fp') ∧ (Free σ g w k ∨ w.heap.size ≤ k ∨ k ∈ bks B s)) → Free ⟨τ.sl, τ.bx, mE d 0 (flatM res) τ.ev⟩ g' w' k := fun k hk => by
    have hOnσ : ∀ e, τ.On e → σ.On e := fun e ⟨x, hx, ho⟩ => ⟨x, (hK.ev e x hx).1, ho⟩
    have hno : ∀ e, St.On ⟨τ.sl, τ.bx, mE d 0 (flatM res) τ.ev⟩ e → k ∉ g'.φ e := fun e ho' hm => by
      by_cases hee : τ.ev e = none
      · obtain ⟨x, hx, _⟩ := ho'
        have := ((q1.new e x hee hx).2.2.1 k hm).2
        rw [List.nil_append] at this
        exact hk.1.2 this
      · rw [(q1.old e hee).2.2] at hm
        obtain ⟨x, hx, hon⟩ := ho'
        have ho2 : τ.On e := ⟨x, (q1.old e hee).1.symm.trans hx, hon⟩
        rcases hk.2 with h | h | h
        · exact h.2 e (hOnσ e ho2) hm
        · obtain ⟨y, hy, hyo⟩ := hOnσ e ho2
          have := (hR.evs e y hy hyo).lt k hm; omega
        · obtain ⟨e', h1, h2, h3⟩ := hfp k h
          refine hR.apart e e' (hOnσ e ho2) h1 (fun ee => ?_) k hm h3
          subst ee
          obtain ⟨y, hy, _⟩ := ho2
          rw [h2] at hy; cases hy
    have hbne : ∀ b, τ.bx b ≠ none → σ.bx b ≠ none := fun b hb => by
      obtain ⟨cs, hcs⟩ := Option.ne_none_iff_exists'.1 hb
      rw [(hK.bx b cs hcs).1]; simp
    refine ⟨⟨fun j hj e => ?_, fun e x hx hon hh => hno e ⟨x, hx, hon⟩ (List.mem_of_mem_head? hh), hk.1.1, ?_⟩, hno⟩
    · have hj' := hbne j hj
      rw [q1.β] at e
      rcases hk.2 with h | h | h
      · exact h.1.1 j hj' e
      · have := hR.lt hj'; omega
      · obtain ⟨e', h1, _, h3⟩ := hfp k h
        exact hR.ebx e' j h1 hj' (e ▸ h3)
    · rw [q1.A0]
      rcases hk.2 with h | h | h
      · exact h.1.2.2.2
      · exact (hR.anew k (hn.new h)).1
      · obtain ⟨e', h1, _, h3⟩ := hfp k h
        exact (hR.ebase e' h1 k h3).1
  refine ⟨g', ?_, hBk, q1.A0, q1.R0⟩
  have hp := hR'.put (some d) (x := tupV (mD d 0 res)) (v := resVal us) (tupV_vr (mD_vr d 0 o1 (q3 _ _ rfl fun t v h => RepV.keep (fun _ _ => rfl) hfree t v h)) (mD_tup d res 0)) (fun i hi => by cases hi; exact hdN d hd)
  rw [hd]
  exact hp
section
variable {ks : List Fr} {Q : Exit → St → Prop} {σ : St} {ops : Array Oper} {os : List Oper} {ty : TypeId} {ps : String} {af : Array Edge} {d : Nat} {x : Operand} {asx : Array Operand} {ts : Array TypeId} {f : FuncId} {ds res : List (Bool × D)}
/-- A call that is given slices and whose results are partly owned: la, ba, ea go; l, bl, el stay. -/
theorem callX (la l : List (Nat × V)) (ba bl : List (Nat × List C)) (ea el : List (Nat × Ev)) (pl : List (Nat × Nat × Nat)) (h : XC P f ds res)
    (hw : wkL σ (hd (la ++ l) (ba ++ bl) (ea ++ el)) (la ++ l) ∧ wkB σ (hd (la ++ l) (ba ++ bl) (ea ++ el)) (ba ++ bl) ∧ wkE σ (ea ++ el))
    (hk : noKeys l la ∧ noKeys bl ba ∧ noKeys el ea ∧ okL (hd l bl el) l ∧ okB (hd l bl el) bl ∧ okE el)
    (hp : onSome (calleeOf ((hd (la ++ l) (ba ++ bl) (ea ++ el)).get P 0 x)) fun p => p.1 = f ∧ gvA (hd (la ++ l) (ba ++ bl) (ea ++ el)) (srOut el) [] pl ((hd (la ++ l) (ba ++ bl) (ea ++ el)).gets P asx ts ++ p.2) ds) (hf : mF d 0 (flatM res) (hd l bl el).ev)
    (k : exo P ops os ks Q ((hd l bl el).callX d res)) : exo P ops (⟨some d, .call ⟨.value x, asx, ts⟩, ty, ps, af, none⟩ :: os) ks Q σ := by
  obtain ⟨⟨f', cvs⟩, h1, rfl, h2⟩ := onSome_ex hp
  obtain ⟨k1, k2, k3, k4, k5, k6⟩ := hk
  refine exo_sem rfl rfl (StepSem.pre (weak_hd hw) (sem_callX (P := P) (o := ⟨some d, .call ⟨.value x, asx, ts⟩, ty, ps, af, none⟩) rfl rfl h h1 (τ := hd l bl el) ⟨fun i => ?_, fun b cs hb => ⟨tbl_app k2 b cs hb, okB_all k5 b cs hb⟩, fun e x he => ⟨tbl_app k3 e x he, okE_all k6 e x he⟩⟩ (gvA_mono (fun u hu => srOut_all hu) h2) hf)) k
  rcases upds_app k1 i with h | h
  · exact Or.inl h
  · exact Or.inr ⟨h, okL_all k4 i⟩
theorem callXL (L A : List Nat) (pl : List (Nat × Nat × Nat)) (h : XC P f ds res)
    (hw : wkL σ (hd (σ.lL A ++ σ.lL L) (σ.lB (dif (σ.KB L) (σ.KB A)) ++ σ.lB (σ.KB L)) (σ.lE (dif (σ.KE L) (σ.KE A)) ++ σ.lE (σ.KE L))) (σ.lL A ++ σ.lL L) ∧ wkB σ (hd (σ.lL A ++ σ.lL L) (σ.lB (dif (σ.KB L) (σ.KB A)) ++ σ.lB (σ.KB L)) (σ.lE (dif (σ.KE L) (σ.KE A)) ++ σ.lE (σ.KE L))) (σ.lB (dif (σ.KB L) (σ.KB A)) ++ σ.lB (σ.KB L)) ∧ wkE σ (σ.lE (dif (σ.KE L) (σ.KE A)) ++ σ.lE (σ.KE L)))
    (hk : noKeys (σ.lL L) (σ.lL A) ∧ noKeys (σ.lB (σ.KB L)) (σ.lB (dif (σ.KB L) (σ.KB A))) ∧ noKeys (σ.lE (σ.KE L)) (σ.lE (dif (σ.KE L) (σ.KE A))) ∧ okL (σ.hL L) (σ.lL L) ∧ okB (σ.hL L) (σ.lB (σ.KB L)) ∧ okE (σ.lE (σ.KE L)))
    (hp : onSome (calleeOf ((hd (σ.lL A ++ σ.lL L) (σ.lB (dif (σ.KB L) (σ.KB A)) ++ σ.lB (σ.KB L)) (σ.lE (dif (σ.KE L) (σ.KE A)) ++ σ.lE (σ.KE L))).get P 0 x)) fun p => p.1 = f ∧ gvA (hd (σ.lL A ++ σ.lL L) (σ.lB (dif (σ.KB L) (σ.KB A)) ++ σ.lB (σ.KB L)) (σ.lE (dif (σ.KE L) (σ.KE A)) ++ σ.lE (σ.KE L))) (srOut (σ.lE (σ.KE L))) [] pl ((hd (σ.lL A ++ σ.lL L) (σ.lB (dif (σ.KB L) (σ.KB A)) ++ σ.lB (σ.KB L)) (σ.lE (dif (σ.KE L) (σ.KE A)) ++ σ.lE (σ.KE L))).gets P asx ts ++ p.2) ds)
    (hf : mF d 0 (flatM res) (σ.hL L).ev) (k : exo P ops os ks Q ((σ.hL L).callX d res)) : exo P ops (⟨some d, .call ⟨.value x, asx, ts⟩, ty, ps, af, none⟩ :: os) ks Q σ :=
  callX (σ.lL A) (σ.lL L) _ _ _ _ pl h hw hk hp hf k
end
attribute [go_sem] flatM mC1 mC mE mF mD St.callX PM PM0 owE1 free1
end Go.Proofs.Ytfppgpojemdijaa
/-
  The walk over plain data: an owned slice that is only read from here on.
  Conditions: none.
-/
namespace Go.Proofs.Ytfppgpojemdijaa
set_option linter.unusedSimpArgs false
set_option linter.unusedVariables false
set_option linter.unusedSectionVars false
set_option maxRecDepth 4000
open Go.RowKit
variable {P : Program}
def C.fz (e : Nat) (x : Ev) : C → C
  | .ow e' g => if e' = e then (if g = x.gen then .rn (.sl x.sz x.rows) else .any) else .ow e' g
  | .eo e' g sz i o => if e' = e then .any else .eo e' g sz i o
  | c => c
def fzS (f : Nat → V) (e : Nat) (x : Ev) : Nat → V := fun i => (f i).map (C.fz e x)
def fzB (f : Nat → Option (List C)) (e : Nat) (x : Ev) : Nat → Option (List C) := fun b => (f b).map fun cs => cs.map (C.fz e x)
def fzE (f : Nat → Option Ev) (e : Nat) : Nat → Option Ev := fun k => if k = e then none else f k
theorem fzS_at (f : Nat → V) (e : Nat) (x : Ev) (i : Nat) : fzS f e x i = (f i).map (C.fz e x) := rfl
theorem fzB_at (f : Nat → Option (List C)) (e : Nat) (x : Ev) (b : Nat) : fzB f e x b = (f b).map fun cs => cs.map (C.fz e x) := rfl
theorem fzE_at (f : Nat → Option Ev) (e k : Nat) : fzE f e k = if k = e then none else f k := rfl
def St.fz (σ : St) (e : Nat) (x : Ev) : St := ⟨fzS σ.sl e x, fzB σ.bx e x, fzE σ.ev e⟩
theorem fz_wk {σ : St} {e : Nat} {x : Ev} (hx : σ.ev e = some x) (hd : x.deep = true) (ho : x.on = true) : Wk σ (σ.fz e x) := by
  intro n0 N g a w h
  have hev : ∀ e', e' ≠ e → (σ.fz e x).ev e' = σ.ev e' := fun e' he => by show (if e' = e then none else σ.ev e') = _; rw [if_neg he]
  have hee : (σ.fz e x).ev e = none := by show (if e = e then none else σ.ev e) = _; rw [if_pos rfl]
  have hsome : ∀ e' z, (σ.fz e x).ev e' = some z → e' ≠ e ∧ σ.ev e' = some z := fun e' z hz => by
    by_cases he : e' = e
    · subst he; rw [hee] at hz; cases hz
    · exact ⟨he, by rw [← hev e' he]; exact hz⟩
  have hon : ∀ e', (σ.fz e x).On e' → e' ≠ e ∧ σ.On e' := fun e' ⟨z, hz, h1⟩ => ⟨(hsome e' z hz).1, z, (hsome e' z hz).2, h1⟩
  have hbx : ∀ b, (σ.fz e x).bx b ≠ none ↔ σ.bx b ≠ none := fun b => by unfold St.fz; simp [fzB_at]
  have hOn : σ.On e := ⟨x, hx, ho⟩
  have hf : ∀ b, Fix σ g w b → Fix (σ.fz e x) g w b := fun b hf => ⟨fun k hk => hf.1 k ((hbx k).1 hk), fun e' z hz h1 => hf.2.1 e' z (hsome e' z hz).2 h1, hf.2.2⟩
  have hfr : ∀ b, Free σ g w b → Free (σ.fz e x) g w b := fun b hb => ⟨hf b hb.1, fun e' h' => hb.2 e' (hon e' h').2⟩
  have hgone : ∀ b ∈ g.φ e, b < w.heap.size → Free (σ.fz e x) g w b := fun b hb hl => by
    have hne : ∀ e', (σ.fz e x).On e' → b ∉ g.φ e' := fun e' he' hm => h.apart e e' hOn (hon e' he').2 (Ne.symm (hon e' he').1) b hb hm
    exact ⟨⟨fun j hj hjb => h.ebx e j hOn ((hbx j).1 hj) (by rw [hjb]; exact hb), fun e' z hz h1 hh => hne e' ⟨z, hz, h1⟩ (List.mem_of_mem_head? hh), hl, (h.ebase e hOn b hb).1⟩, hne⟩
  have hhas : ∀ e' n, e' ≠ e → σ.has e' n → (σ.fz e x).has e' n := fun e' n he ⟨z, hz, h1⟩ => ⟨z, by rw [hev e' he]; exact hz, h1⟩
  have cr : ∀ c v, CR σ g w c v → CR (σ.fz e x) g w (c.fz e x) v := fun c v hc => by
    cases c with
    | t y => exact RepV.keep (fun _ _ => rfl) hf y v hc
    | nl s => exact hc
    | ow e' n =>
      show CR _ _ _ (if e' = e then (if n = x.gen then .rn (.sl x.sz x.rows) else .any) else .ow e' n) v
      by_cases he : e' = e
      · subst he
        rw [if_pos rfl]
        by_cases hn : n = x.gen
        · rw [if_pos hn]
          subst hn
          obtain ⟨ao, cap, e1, e2, e3, e4⟩ := h.evs _ x hx ho
          rw [← hc.1] at e1
          show RepV _ _ _ _
          unfold RepV
          refine ⟨ao, cap, e1, e2, e3, ?_⟩
          rcases e4 with ⟨_, _, e4, _⟩ | ⟨b, cells, ty, fps, k1, k2, k3, k4, k5⟩
          · exact Or.inl e4
          · rw [if_pos hd] at k5
            have hl : ∀ b' ∈ fps, b' < w.heap.size := OwnRows.lt cells 0 x.sz x.rows fps k5
            exact Or.inr ⟨b, 0, k1, hgone b (by rw [k2]; simp) (Array.getElem?_eq_some_iff.1 k3).1, OwnRows.rep b cells ty k3 0 x.sz x.rows fps k5 fun b' hb' => hgone b' (by rw [k2]; simp [hb']) (hl b' hb')⟩
        · rw [if_neg hn]; trivial
      · rw [if_neg he]; exact ⟨hc.1, hhas e' n he hc.2⟩
    | bx b o => exact ⟨hc.1, (hbx b).2 hc.2⟩
    | el cs o => obtain ⟨b, q, h1, h2, h3⟩ := hc; exact ⟨b, q, h1, hf b h2, RepAt.keep (fun _ _ => rfl) hf b rfl q cs h3⟩
    | eo e' s sz i o =>
      show CR _ _ _ (if e' = e then .any else .eo e' s sz i o) v
      by_cases he : e' = e
      · rw [if_pos he]; trivial
      · rw [if_neg he]; obtain ⟨b, n, c, h1, h2, h3, h4⟩ := hc; exact ⟨b, n, c, h1, h2, h3, hhas e' s he h4⟩
    | fn f caps => exact ⟨hc.1, fun b hb => (hbx b).2 (hc.2 b hb)⟩
    | cv u => exact hc
    | any => trivial
    | rn y => exact RepV.keep (fun _ _ => rfl) hfr y v hc
    | er cs o => obtain ⟨b, q, h1, h2, h3⟩ := hc; exact ⟨b, q, h1, hfr b h2, RepAt.keep (fun _ _ => rfl) hfr b rfl q cs h3⟩
  refine ⟨g, ⟨h.defers, h.size, h.anew, fun i => VR.map cr (h.slots i), fun b cs hb => ?_, fun b hb => h.base b ((hbx b).1 hb), fun b b' h1 h2 => h.inj b b' ((hbx b).1 h1) ((hbx b').1 h2), fun e' z hz h1 => ?_, fun e' z hz h1 => ?_, h.slc, fun e' h1 => h.ebase e' (hon e' h1).2, fun e' h1 => h.etop e' (hon e' h1).2, fun e' h1 => h.nodup e' (hon e' h1).2, fun e1 e2 h1 h2 => h.apart e1 e2 (hon e1 h1).2 (hon e2 h2).2, fun e' k h1 h2 => h.ebx e' k (hon e' h1).2 ((hbx k).1 h2)⟩, rfl, rfl⟩
  · cases hc : σ.bx b with
    | none => unfold St.fz at hb; simp only [fzB_at, hc, Option.map_none] at hb; cases hb
    | some cs0 =>
      unfold St.fz at hb
      simp only [fzB_at, hc, Option.map_some, Option.some.injEq] at hb
      subst hb
      obtain ⟨vs, ty, k1, k2⟩ := h.boxes b cs0 hc
      exact ⟨vs, ty, k1, CRs.map cr k2⟩
  · obtain ⟨ao, cap, e1, e2, e3, e4⟩ := h.evs e' z (hsome e' z hz).2 h1
    refine ⟨ao, cap, e1, e2, e3, ?_⟩
    rcases e4 with e4 | ⟨b, cells, ty, fps, k1, k2, k3, k4, k5⟩
    · exact Or.inl e4
    · refine Or.inr ⟨b, cells, ty, fps, k1, k2, k3, k4, ?_⟩
      split at k5
      · rw [if_pos ‹_›]; exact k5
      · rw [if_neg ‹_›]; exact ⟨k5.1, RepRows.keep (fun _ _ => rfl) hf b rfl 0 z.sz z.rows k5.2⟩
  · exact ⟨RepV.keep (fun _ _ => rfl) hf _ _ (h.offs e' z (hsome e' z hz).2 h1).1, (h.offs e' z (hsome e' z hz).2 h1).2⟩
theorem StepSemX.pre {o : Oper} {σ σ' : St} {K : St → Prop} (h : Wk σ σ') (k : StepSemX P o σ' K) : StepSemX P o σ K := fun n0 N g a w hR hn hd => by
  obtain ⟨g1, h1, h2, h3⟩ := h n0 N g a w hR
  have := k n0 N g1 a w h1 hn hd
  unfold Oper.wp at this ⊢
  revert this
  cases (execOp a.eval o).run P w <;> intro this <;> try exact this
  all_goals (revert this; rw [h2, h3]; exact id)
theorem DrawSem.pre {id : Nat} {ops : Array Oper} {σ σ' : St} {K : St → Prop} (h : Wk σ σ') (k : DrawSem P id ops σ' K) : DrawSem P id ops σ K := fun n0 N g a w hR hn hd => by
  obtain ⟨g1, h1, h2, h3⟩ := h n0 N g a w hR
  have := k n0 N g1 a w h1 hn hd
  rw [h2, h3] at this
  exact this
section
variable {ks : List Fr} {Q : Exit → St → Prop} {σ : St} {ops : Array Oper} {os : List Oper} {o : Oper}
/-- What is forgotten, ahead of a call or the like. -/
theorem exo_pre {σ' : St} (h : Wk σ σ') (hg : o.guard = none) (hs : semO o.op = true) (k : exo P ops (o :: os) ks Q σ') : exo P ops (o :: os) ks Q σ := by
  unfold exo execOps exG at k ⊢
  rw [hg] at k ⊢
  simp only at k ⊢
  unfold execOp1 semS at k ⊢
  rw [if_pos (by rw [hs]; rfl)] at k ⊢
  exact k.pre h
/-- The owned slice e is only read from here on: ahead of a call or the like. -/
theorem frzO (e : Nat) (hg : o.guard = none) (hs : semO o.op = true) (k : onSome (σ.ev e) fun x => x.deep = true ∧ x.on = true ∧ exo P ops (o :: os) ks Q (σ.fz e x)) : exo P ops (o :: os) ks Q σ := by
  obtain ⟨x, hx, h1, h2, h3⟩ := onSome_ex k
  exact exo_pre (fz_wk hx h1 h2) hg hs h3
/-- Of all else only the slots L are looked at from here on. -/
theorem forget (L : List Nat) (hg : o.guard = none) (hs : semO o.op = true) (hw : wkK σ L) (k : exo P ops (o :: os) ks Q (σ.hL L)) : exo P ops (o :: os) ks Q σ := exo_pre (wkK_wk hw) hg hs k
/-- .. ahead of a drawn region. -/
theorem frzD (e : Nat) {i : Nat} (k : onSome (σ.ev e) fun x => x.deep = true ∧ x.on = true ∧ ex P (.region i ops true) ks Q (σ.fz e x)) : ex P (.region i ops true) ks Q σ := by
  obtain ⟨x, hx, h1, h2, h3⟩ := onSome_ex k
  exact DrawSem.pre (fz_wk hx h1 h2) h3
/-- .. where it is sliced. -/
theorem sliceF (e : Nat) {d : Option Nat} {t : TypeId} {y : Operand} {l hi m : Option Operand} {ty : TypeId} {ps : String} {af : Array Edge} (k : onSome (σ.ev e) fun x => x.deep = true ∧ x.on = true ∧ thn (st P ⟨d, .slice t y l hi m, ty, ps, af, none⟩ (σ.fz e x)) (exo P ops os ks Q)) : exoS P ops ⟨d, .slice t y l hi m, ty, ps, af, none⟩ os ks Q σ := by
  obtain ⟨x, hx, h1, h2, h3⟩ := onSome_ex k
  obtain ⟨p, σ', h4, h5, h6⟩ := thnK h3
  exact StepSemX.pre (fz_wk hx h1 h2) ((st_sound h4 h5).toX h6)
end
attribute [go_sem] C.fz St.fz V.map fzS_at fzB_at fzE_at
end Go.Proofs.Ytfppgpojemdijaa
/-
  What the walk asks of the types of the program.
  Conditions: none.
-/
namespace Go.Proofs.Ytfppgpojemdijaa
theorem nl_0 : nlT Try.prog 0 = 0 := by kernel_rfl
theorem nl_1 : nlT Try.prog 1 = 0 := by kernel_rfl
theorem ag_1 : aggT Try.prog 1 = some false := by kernel_rfl
theorem sz_1 : sizeT Try.prog 1 = some 1 := by kernel_rfl
theorem ze_1 : zeroT Try.prog 1 = some [.cv .nilFunc] := by kernel_rfl
theorem nl_2 : nlT Try.prog 2 = 0 := by kernel_rfl
theorem ag_2 : aggT Try.prog 2 = some false := by kernel_rfl
theorem sz_2 : sizeT Try.prog 2 = some 1 := by kernel_rfl
theorem in_2 : intT Try.prog 2 = some .i64 := by kernel_rfl
theorem ze_2 : zeroT Try.prog 2 = some [.t (.int .i64 0)] := by kernel_rfl
theorem nl_3 : nlT Try.prog 3 = 0 := by kernel_rfl
theorem ag_3 : aggT Try.prog 3 = some false := by kernel_rfl
theorem sz_3 : sizeT Try.prog 3 = some 1 := by kernel_rfl
theorem in_3 : intT Try.prog 3 = some .i64 := by kernel_rfl
theorem ze_3 : zeroT Try.prog 3 = some [.t (.int .i64 0)] := by kernel_rfl
theorem nl_4 : nlT Try.prog 4 = 0 := by kernel_rfl
theorem ag_4 : aggT Try.prog 4 = some false := by kernel_rfl
theorem sz_4 : sizeT Try.prog 4 = some 1 := by kernel_rfl
theorem bo_4 : boolT Try.prog 4 = true := by kernel_rfl
theorem ze_4 : zeroT Try.prog 4 = some [.t (.bool false)] := by kernel_rfl
theorem nl_5 : nlT Try.prog 5 = 0 := by kernel_rfl
theorem ag_5 : aggT Try.prog 5 = some false := by kernel_rfl
theorem sz_5 : sizeT Try.prog 5 = some 1 := by kernel_rfl
theorem in_5 : intT Try.prog 5 = some .u8 := by kernel_rfl
theorem ze_5 : zeroT Try.prog 5 = some [.t (.int .u8 0)] := by kernel_rfl
theorem nl_6 : nlT Try.prog 6 = 0 := by kernel_rfl
theorem ag_6 : aggT Try.prog 6 = some false := by kernel_rfl
theorem sz_6 : sizeT Try.prog 6 = some 1 := by kernel_rfl
theorem in_6 : intT Try.prog 6 = some .u8 := by kernel_rfl
theorem ze_6 : zeroT Try.prog 6 = some [.t (.int .u8 0)] := by kernel_rfl
theorem nl_7 : nlT Try.prog 7 = 0 := by kernel_rfl
theorem ag_7 : aggT Try.prog 7 = some true := by kernel_rfl
theorem sz_7 : sizeT Try.prog 7 = some 4 := by kernel_rfl
theorem ze_7 : zeroT Try.prog 7 = some [.t (.int .i64 0), .t (.int .i64 0), .t (.bool false), .t (.int .u8 0)] := by kernel_rfl
theorem pl_7 : plsT Try.prog 7 = some [(0, 1), (1, 1), (2, 1), (3, 1)] := by kernel_rfl
theorem fl_7_0 : fldT Try.prog 7 0 = some (0, 2) := by kernel_rfl
theorem ft_7_0 : ftyT Try.prog 7 0 = 2 := by kernel_rfl
theorem fl_7_1 : fldT Try.prog 7 1 = some (1, 3) := by kernel_rfl
theorem ft_7_1 : ftyT Try.prog 7 1 = 3 := by kernel_rfl
theorem fl_7_2 : fldT Try.prog 7 2 = some (2, 4) := by kernel_rfl
theorem ft_7_2 : ftyT Try.prog 7 2 = 4 := by kernel_rfl
theorem fl_7_3 : fldT Try.prog 7 3 = some (3, 6) := by kernel_rfl
theorem ft_7_3 : ftyT Try.prog 7 3 = 6 := by kernel_rfl
theorem nl_8 : nlT Try.prog 8 = 0 := by kernel_rfl
theorem ag_8 : aggT Try.prog 8 = some true := by kernel_rfl
theorem sz_8 : sizeT Try.prog 8 = some 4 := by kernel_rfl
theorem ze_8 : zeroT Try.prog 8 = some [.t (.int .i64 0), .t (.int .i64 0), .t (.bool false), .t (.int .u8 0)] := by kernel_rfl
theorem pl_8 : plsT Try.prog 8 = some [(0, 1), (1, 1), (2, 1), (3, 1)] := by kernel_rfl
theorem fl_8_0 : fldT Try.prog 8 0 = some (0, 2) := by kernel_rfl
theorem ft_8_0 : ftyT Try.prog 8 0 = 2 := by kernel_rfl
theorem fl_8_1 : fldT Try.prog 8 1 = some (1, 3) := by kernel_rfl
theorem ft_8_1 : ftyT Try.prog 8 1 = 3 := by kernel_rfl
theorem fl_8_2 : fldT Try.prog 8 2 = some (2, 4) := by kernel_rfl
theorem ft_8_2 : ftyT Try.prog 8 2 = 4 := by kernel_rfl
theorem fl_8_3 : fldT Try.prog 8 3 = some (3, 6) := by kernel_rfl
theorem ft_8_3 : ftyT Try.prog 8 3 = 6 := by kernel_rfl
theorem nl_9 : nlT Try.prog 9 = 0 := by kernel_rfl
theorem ag_9 : aggT Try.prog 9 = some false := by kernel_rfl
theorem sz_9 : sizeT Try.prog 9 = some 1 := by kernel_rfl
theorem in_9 : intT Try.prog 9 = none := by kernel_rfl
theorem st_9 : strT Try.prog 9 = true := by kernel_rfl
theorem ze_9 : zeroT Try.prog 9 = some [.t (.str [])] := by kernel_rfl
theorem nl_10 : nlT Try.prog 10 = 0 := by kernel_rfl
theorem ag_10 : aggT Try.prog 10 = some false := by kernel_rfl
theorem sz_10 : sizeT Try.prog 10 = some 1 := by kernel_rfl
theorem in_10 : intT Try.prog 10 = none := by kernel_rfl
theorem st_10 : strT Try.prog 10 = true := by kernel_rfl
theorem ze_10 : zeroT Try.prog 10 = some [.t (.str [])] := by kernel_rfl
theorem nl_11 : nlT Try.prog 11 = 0 := by kernel_rfl
theorem ag_11 : aggT Try.prog 11 = some false := by kernel_rfl
theorem sz_11 : sizeT Try.prog 11 = some 1 := by kernel_rfl
theorem in_11 : intT Try.prog 11 = none := by kernel_rfl
theorem st_11 : strT Try.prog 11 = true := by kernel_rfl
theorem ze_11 : zeroT Try.prog 11 = some [.t (.str [])] := by kernel_rfl
theorem nl_12 : nlT Try.prog 12 = 0 := by kernel_rfl
theorem ag_12 : aggT Try.prog 12 = some false := by kernel_rfl
theorem sz_12 : sizeT Try.prog 12 = some 1 := by kernel_rfl
theorem in_12 : intT Try.prog 12 = some .u64 := by kernel_rfl
theorem ze_12 : zeroT Try.prog 12 = some [.t (.int .u64 0)] := by kernel_rfl
theorem nl_13 : nlT Try.prog 13 = 0 := by kernel_rfl
theorem ag_13 : aggT Try.prog 13 = some true := by kernel_rfl
theorem sz_13 : sizeT Try.prog 13 = some 2 := by kernel_rfl
theorem ze_13 : zeroT Try.prog 13 = some [.t (.str []), .t (.int .u64 0)] := by kernel_rfl
theorem pl_13 : plsT Try.prog 13 = some [(0, 1), (1, 1)] := by kernel_rfl
theorem fl_13_0 : fldT Try.prog 13 0 = some (0, 9) := by kernel_rfl
theorem ft_13_0 : ftyT Try.prog 13 0 = 9 := by kernel_rfl
theorem fl_13_1 : fldT Try.prog 13 1 = some (1, 12) := by kernel_rfl
theorem ft_13_1 : ftyT Try.prog 13 1 = 12 := by kernel_rfl
theorem nl_14 : nlT Try.prog 14 = 0 := by kernel_rfl
theorem ag_14 : aggT Try.prog 14 = some true := by kernel_rfl
theorem sz_14 : sizeT Try.prog 14 = some 2 := by kernel_rfl
theorem ze_14 : zeroT Try.prog 14 = some [.t (.str []), .t (.int .u64 0)] := by kernel_rfl
theorem pl_14 : plsT Try.prog 14 = some [(0, 1), (1, 1)] := by kernel_rfl
theorem fl_14_0 : fldT Try.prog 14 0 = some (0, 9) := by kernel_rfl
theorem ft_14_0 : ftyT Try.prog 14 0 = 9 := by kernel_rfl
theorem fl_14_1 : fldT Try.prog 14 1 = some (1, 12) := by kernel_rfl
theorem ft_14_1 : ftyT Try.prog 14 1 = 12 := by kernel_rfl
theorem nl_15 : nlT Try.prog 15 = 0 := by kernel_rfl
theorem ag_15 : aggT Try.prog 15 = some false := by kernel_rfl
theorem sz_15 : sizeT Try.prog 15 = some 1 := by kernel_rfl
theorem ze_15 : zeroT Try.prog 15 = some [.cv (.pointer none)] := by kernel_rfl
theorem nl_16 : nlT Try.prog 16 = 0 := by kernel_rfl
theorem ag_16 : aggT Try.prog 16 = some false := by kernel_rfl
theorem sz_16 : sizeT Try.prog 16 = some 1 := by kernel_rfl
theorem ze_16 : zeroT Try.prog 16 = some [.cv (.pointer none)] := by kernel_rfl
theorem nl_17 : nlT Try.prog 17 = 0 := by kernel_rfl
theorem ag_17 : aggT Try.prog 17 = some false := by kernel_rfl
theorem sz_17 : sizeT Try.prog 17 = some 1 := by kernel_rfl
theorem ze_17 : zeroT Try.prog 17 = some [.cv (.pointer none)] := by kernel_rfl
theorem nl_18 : nlT Try.prog 18 = 0 := by kernel_rfl
theorem ag_18 : aggT Try.prog 18 = some true := by kernel_rfl
theorem sz_18 : sizeT Try.prog 18 = some 1 := by kernel_rfl
theorem ze_18 : zeroT Try.prog 18 = some [.cv (.pointer none)] := by kernel_rfl
theorem pl_18 : plsT Try.prog 18 = some [(0, 1)] := by kernel_rfl
theorem fl_18_0 : fldT Try.prog 18 0 = some (0, 17) := by kernel_rfl
theorem ft_18_0 : ftyT Try.prog 18 0 = 17 := by kernel_rfl
theorem nl_19 : nlT Try.prog 19 = 0 := by kernel_rfl
theorem ag_19 : aggT Try.prog 19 = some true := by kernel_rfl
theorem sz_19 : sizeT Try.prog 19 = some 1 := by kernel_rfl
theorem ze_19 : zeroT Try.prog 19 = some [.cv (.pointer none)] := by kernel_rfl
theorem pl_19 : plsT Try.prog 19 = some [(0, 1)] := by kernel_rfl
theorem fl_19_0 : fldT Try.prog 19 0 = some (0, 17) := by kernel_rfl
theorem ft_19_0 : ftyT Try.prog 19 0 = 17 := by kernel_rfl
theorem nl_20 : nlT Try.prog 20 = 0 := by kernel_rfl
theorem ag_20 : aggT Try.prog 20 = some false := by kernel_rfl
theorem sz_20 : sizeT Try.prog 20 = some 1 := by kernel_rfl
theorem ze_20 : zeroT Try.prog 20 = some [.cv .nilIface] := by kernel_rfl
theorem nl_21 : nlT Try.prog 21 = 0 := by kernel_rfl
theorem ag_21 : aggT Try.prog 21 = some false := by kernel_rfl
theorem sz_21 : sizeT Try.prog 21 = some 1 := by kernel_rfl
theorem in_21 : intT Try.prog 21 = some .i32 := by kernel_rfl
theorem ze_21 : zeroT Try.prog 21 = some [.t (.int .i32 0)] := by kernel_rfl
theorem nl_22 : nlT Try.prog 22 = 2 := by kernel_rfl
theorem ag_22 : aggT Try.prog 22 = some false := by kernel_rfl
theorem sz_22 : sizeT Try.prog 22 = some 1 := by kernel_rfl
theorem el_22 : elT Try.prog 22 = some 24 := by kernel_rfl
theorem by_24_22 : bytesT Try.prog 24 = some 40 := by kernel_rfl
theorem us_22 : u8S Try.prog 22 = false := by kernel_rfl
theorem in_22 : intT Try.prog 22 = none := by kernel_rfl
theorem ze_22 : zeroT Try.prog 22 = some [.nl 2] := by kernel_rfl
theorem nl_23 : nlT Try.prog 23 = 0 := by kernel_rfl
theorem ag_23 : aggT Try.prog 23 = some true := by kernel_rfl
theorem sz_23 : sizeT Try.prog 23 = some 2 := by kernel_rfl
theorem ze_23 : zeroT Try.prog 23 = some [.t (.str []), .nl 2] := by kernel_rfl
theorem pl_23 : plsT Try.prog 23 = some [(0, 1), (1, 1)] := by kernel_rfl
theorem fl_23_0 : fldT Try.prog 23 0 = some (0, 9) := by kernel_rfl
theorem ft_23_0 : ftyT Try.prog 23 0 = 9 := by kernel_rfl
theorem fl_23_1 : fldT Try.prog 23 1 = some (1, 22) := by kernel_rfl
theorem ft_23_1 : ftyT Try.prog 23 1 = 22 := by kernel_rfl
theorem nl_24 : nlT Try.prog 24 = 0 := by kernel_rfl
theorem ag_24 : aggT Try.prog 24 = some true := by kernel_rfl
theorem sz_24 : sizeT Try.prog 24 = some 2 := by kernel_rfl
theorem ze_24 : zeroT Try.prog 24 = some [.t (.str []), .nl 2] := by kernel_rfl
theorem pl_24 : plsT Try.prog 24 = some [(0, 1), (1, 1)] := by kernel_rfl
theorem fl_24_0 : fldT Try.prog 24 0 = some (0, 9) := by kernel_rfl
theorem ft_24_0 : ftyT Try.prog 24 0 = 9 := by kernel_rfl
theorem fl_24_1 : fldT Try.prog 24 1 = some (1, 22) := by kernel_rfl
theorem ft_24_1 : ftyT Try.prog 24 1 = 22 := by kernel_rfl
theorem nl_25 : nlT Try.prog 25 = 5 := by kernel_rfl
theorem ag_25 : aggT Try.prog 25 = some false := by kernel_rfl
theorem sz_25 : sizeT Try.prog 25 = some 1 := by kernel_rfl
theorem el_25 : elT Try.prog 25 = some 27 := by kernel_rfl
theorem by_27_25 : bytesT Try.prog 27 = some 88 := by kernel_rfl
theorem us_25 : u8S Try.prog 25 = false := by kernel_rfl
theorem in_25 : intT Try.prog 25 = none := by kernel_rfl
theorem ze_25 : zeroT Try.prog 25 = some [.nl 5] := by kernel_rfl
theorem nl_26 : nlT Try.prog 26 = 0 := by kernel_rfl
theorem ag_26 : aggT Try.prog 26 = some true := by kernel_rfl
theorem sz_26 : sizeT Try.prog 26 = some 5 := by kernel_rfl
theorem ze_26 : zeroT Try.prog 26 = some [.t (.int .i64 0), .t (.str []), .nl 2, .t (.str []), .nl 5] := by kernel_rfl
theorem pl_26 : plsT Try.prog 26 = some [(0, 1), (1, 2), (3, 1), (4, 1)] := by kernel_rfl
theorem fl_26_0 : fldT Try.prog 26 0 = some (0, 3) := by kernel_rfl
theorem ft_26_0 : ftyT Try.prog 26 0 = 3 := by kernel_rfl
theorem fl_26_1 : fldT Try.prog 26 1 = some (1, 24) := by kernel_rfl
theorem ft_26_1 : ftyT Try.prog 26 1 = 24 := by kernel_rfl
theorem fl_26_2 : fldT Try.prog 26 2 = some (3, 9) := by kernel_rfl
theorem ft_26_2 : ftyT Try.prog 26 2 = 9 := by kernel_rfl
theorem fl_26_3 : fldT Try.prog 26 3 = some (4, 25) := by kernel_rfl
theorem ft_26_3 : ftyT Try.prog 26 3 = 25 := by kernel_rfl
theorem nl_27 : nlT Try.prog 27 = 0 := by kernel_rfl
theorem ag_27 : aggT Try.prog 27 = some true := by kernel_rfl
theorem sz_27 : sizeT Try.prog 27 = some 5 := by kernel_rfl
theorem ze_27 : zeroT Try.prog 27 = some [.t (.int .i64 0), .t (.str []), .nl 2, .t (.str []), .nl 5] := by kernel_rfl
theorem pl_27 : plsT Try.prog 27 = some [(0, 1), (1, 2), (3, 1), (4, 1)] := by kernel_rfl
theorem fl_27_0 : fldT Try.prog 27 0 = some (0, 3) := by kernel_rfl
theorem ft_27_0 : ftyT Try.prog 27 0 = 3 := by kernel_rfl
theorem fl_27_1 : fldT Try.prog 27 1 = some (1, 24) := by kernel_rfl
theorem ft_27_1 : ftyT Try.prog 27 1 = 24 := by kernel_rfl
theorem fl_27_2 : fldT Try.prog 27 2 = some (3, 9) := by kernel_rfl
theorem ft_27_2 : ftyT Try.prog 27 2 = 9 := by kernel_rfl
theorem fl_27_3 : fldT Try.prog 27 3 = some (4, 25) := by kernel_rfl
theorem ft_27_3 : ftyT Try.prog 27 3 = 25 := by kernel_rfl
theorem nl_28 : nlT Try.prog 28 = 0 := by kernel_rfl
theorem ag_28 : aggT Try.prog 28 = some false := by kernel_rfl
theorem sz_28 : sizeT Try.prog 28 = some 1 := by kernel_rfl
theorem ze_28 : zeroT Try.prog 28 = some [.cv .nilFunc] := by kernel_rfl
theorem nl_29 : nlT Try.prog 29 = 0 := by kernel_rfl
theorem ag_29 : aggT Try.prog 29 = some false := by kernel_rfl
theorem sz_29 : sizeT Try.prog 29 = some 1 := by kernel_rfl
theorem ze_29 : zeroT Try.prog 29 = some [.cv .nilFunc] := by kernel_rfl
theorem nl_30 : nlT Try.prog 30 = 2 := by kernel_rfl
theorem ag_30 : aggT Try.prog 30 = some false := by kernel_rfl
theorem sz_30 : sizeT Try.prog 30 = some 1 := by kernel_rfl
theorem el_30 : elT Try.prog 30 = some 32 := by kernel_rfl
theorem by_32_30 : bytesT Try.prog 32 = some 40 := by kernel_rfl
theorem us_30 : u8S Try.prog 30 = false := by kernel_rfl
theorem in_30 : intT Try.prog 30 = none := by kernel_rfl
theorem ze_30 : zeroT Try.prog 30 = some [.nl 2] := by kernel_rfl
theorem nl_31 : nlT Try.prog 31 = 0 := by kernel_rfl
theorem ag_31 : aggT Try.prog 31 = some true := by kernel_rfl
theorem sz_31 : sizeT Try.prog 31 = some 2 := by kernel_rfl
theorem ze_31 : zeroT Try.prog 31 = some [.t (.str []), .nl 2] := by kernel_rfl
theorem pl_31 : plsT Try.prog 31 = some [(0, 1), (1, 1)] := by kernel_rfl
theorem fl_31_0 : fldT Try.prog 31 0 = some (0, 9) := by kernel_rfl
theorem ft_31_0 : ftyT Try.prog 31 0 = 9 := by kernel_rfl
theorem fl_31_1 : fldT Try.prog 31 1 = some (1, 30) := by kernel_rfl
theorem ft_31_1 : ftyT Try.prog 31 1 = 30 := by kernel_rfl
theorem nl_32 : nlT Try.prog 32 = 0 := by kernel_rfl
theorem ag_32 : aggT Try.prog 32 = some true := by kernel_rfl
theorem sz_32 : sizeT Try.prog 32 = some 2 := by kernel_rfl
theorem ze_32 : zeroT Try.prog 32 = some [.t (.str []), .nl 2] := by kernel_rfl
theorem pl_32 : plsT Try.prog 32 = some [(0, 1), (1, 1)] := by kernel_rfl
theorem fl_32_0 : fldT Try.prog 32 0 = some (0, 9) := by kernel_rfl
theorem ft_32_0 : ftyT Try.prog 32 0 = 9 := by kernel_rfl
theorem fl_32_1 : fldT Try.prog 32 1 = some (1, 30) := by kernel_rfl
theorem ft_32_1 : ftyT Try.prog 32 1 = 30 := by kernel_rfl
theorem nl_33 : nlT Try.prog 33 = 5 := by kernel_rfl
theorem ag_33 : aggT Try.prog 33 = some false := by kernel_rfl
theorem sz_33 : sizeT Try.prog 33 = some 1 := by kernel_rfl
theorem el_33 : elT Try.prog 33 = some 35 := by kernel_rfl
theorem by_35_33 : bytesT Try.prog 35 = some 88 := by kernel_rfl
theorem us_33 : u8S Try.prog 33 = false := by kernel_rfl
theorem in_33 : intT Try.prog 33 = none := by kernel_rfl
theorem ze_33 : zeroT Try.prog 33 = some [.nl 5] := by kernel_rfl
theorem nl_34 : nlT Try.prog 34 = 0 := by kernel_rfl
theorem ag_34 : aggT Try.prog 34 = some true := by kernel_rfl
theorem sz_34 : sizeT Try.prog 34 = some 5 := by kernel_rfl
theorem ze_34 : zeroT Try.prog 34 = some [.t (.int .i64 0), .t (.str []), .nl 2, .t (.str []), .nl 5] := by kernel_rfl
theorem pl_34 : plsT Try.prog 34 = some [(0, 1), (1, 2), (3, 1), (4, 1)] := by kernel_rfl
theorem fl_34_0 : fldT Try.prog 34 0 = some (0, 3) := by kernel_rfl
theorem ft_34_0 : ftyT Try.prog 34 0 = 3 := by kernel_rfl
theorem fl_34_1 : fldT Try.prog 34 1 = some (1, 32) := by kernel_rfl
theorem ft_34_1 : ftyT Try.prog 34 1 = 32 := by kernel_rfl
theorem fl_34_2 : fldT Try.prog 34 2 = some (3, 9) := by kernel_rfl
theorem ft_34_2 : ftyT Try.prog 34 2 = 9 := by kernel_rfl
theorem fl_34_3 : fldT Try.prog 34 3 = some (4, 33) := by kernel_rfl
theorem ft_34_3 : ftyT Try.prog 34 3 = 33 := by kernel_rfl
theorem nl_35 : nlT Try.prog 35 = 0 := by kernel_rfl
theorem ag_35 : aggT Try.prog 35 = some true := by kernel_rfl
theorem sz_35 : sizeT Try.prog 35 = some 5 := by kernel_rfl
theorem ze_35 : zeroT Try.prog 35 = some [.t (.int .i64 0), .t (.str []), .nl 2, .t (.str []), .nl 5] := by kernel_rfl
theorem pl_35 : plsT Try.prog 35 = some [(0, 1), (1, 2), (3, 1), (4, 1)] := by kernel_rfl
theorem fl_35_0 : fldT Try.prog 35 0 = some (0, 3) := by kernel_rfl
theorem ft_35_0 : ftyT Try.prog 35 0 = 3 := by kernel_rfl
theorem fl_35_1 : fldT Try.prog 35 1 = some (1, 32) := by kernel_rfl
theorem ft_35_1 : ftyT Try.prog 35 1 = 32 := by kernel_rfl
theorem fl_35_2 : fldT Try.prog 35 2 = some (3, 9) := by kernel_rfl
theorem ft_35_2 : ftyT Try.prog 35 2 = 9 := by kernel_rfl
theorem fl_35_3 : fldT Try.prog 35 3 = some (4, 33) := by kernel_rfl
theorem ft_35_3 : ftyT Try.prog 35 3 = 33 := by kernel_rfl
theorem nl_36 : nlT Try.prog 36 = 0 := by kernel_rfl
theorem ag_36 : aggT Try.prog 36 = some false := by kernel_rfl
theorem sz_36 : sizeT Try.prog 36 = some 1 := by kernel_rfl
theorem ze_36 : zeroT Try.prog 36 = some [.cv .nilFunc] := by kernel_rfl
theorem nl_37 : nlT Try.prog 37 = 0 := by kernel_rfl
theorem ag_37 : aggT Try.prog 37 = some false := by kernel_rfl
theorem sz_37 : sizeT Try.prog 37 = some 1 := by kernel_rfl
theorem ze_37 : zeroT Try.prog 37 = some [.cv .nilFunc] := by kernel_rfl
theorem nl_38 : nlT Try.prog 38 = 0 := by kernel_rfl
theorem ag_38 : aggT Try.prog 38 = some false := by kernel_rfl
theorem sz_38 : sizeT Try.prog 38 = some 1 := by kernel_rfl
theorem ze_38 : zeroT Try.prog 38 = some [.cv .nilFunc] := by kernel_rfl
theorem nl_39 : nlT Try.prog 39 = 0 := by kernel_rfl
theorem ag_39 : aggT Try.prog 39 = some false := by kernel_rfl
theorem sz_39 : sizeT Try.prog 39 = some 1 := by kernel_rfl
theorem ze_39 : zeroT Try.prog 39 = some [.cv .nilFunc] := by kernel_rfl
theorem nl_40 : nlT Try.prog 40 = 0 := by kernel_rfl
theorem ag_40 : aggT Try.prog 40 = some false := by kernel_rfl
theorem sz_40 : sizeT Try.prog 40 = some 1 := by kernel_rfl
theorem ze_40 : zeroT Try.prog 40 = some [.cv .nilFunc] := by kernel_rfl
theorem nl_41 : nlT Try.prog 41 = 0 := by kernel_rfl
theorem ag_41 : aggT Try.prog 41 = some false := by kernel_rfl
theorem sz_41 : sizeT Try.prog 41 = some 1 := by kernel_rfl
theorem ze_41 : zeroT Try.prog 41 = some [.cv .nilFunc] := by kernel_rfl
theorem nl_42 : nlT Try.prog 42 = 0 := by kernel_rfl
theorem ag_42 : aggT Try.prog 42 = some false := by kernel_rfl
theorem sz_42 : sizeT Try.prog 42 = some 1 := by kernel_rfl
theorem ze_42 : zeroT Try.prog 42 = some [.cv .nilFunc] := by kernel_rfl
theorem nl_43 : nlT Try.prog 43 = 1 := by kernel_rfl
theorem ag_43 : aggT Try.prog 43 = some false := by kernel_rfl
theorem sz_43 : sizeT Try.prog 43 = some 1 := by kernel_rfl
theorem el_43 : elT Try.prog 43 = some 9 := by kernel_rfl
theorem by_9_43 : bytesT Try.prog 9 = some 16 := by kernel_rfl
theorem us_43 : u8S Try.prog 43 = false := by kernel_rfl
theorem in_43 : intT Try.prog 43 = none := by kernel_rfl
theorem ze_43 : zeroT Try.prog 43 = some [.nl 1] := by kernel_rfl
theorem nl_44 : nlT Try.prog 44 = 0 := by kernel_rfl
theorem ag_44 : aggT Try.prog 44 = some false := by kernel_rfl
theorem sz_44 : sizeT Try.prog 44 = some 1 := by kernel_rfl
theorem ze_44 : zeroT Try.prog 44 = some [.cv .nilFunc] := by kernel_rfl
theorem nl_45 : nlT Try.prog 45 = 0 := by kernel_rfl
theorem nl_46 : nlT Try.prog 46 = 0 := by kernel_rfl
theorem ag_46 : aggT Try.prog 46 = some false := by kernel_rfl
theorem sz_46 : sizeT Try.prog 46 = some 1 := by kernel_rfl
theorem ze_46 : zeroT Try.prog 46 = some [.cv .nilFunc] := by kernel_rfl
theorem nl_47 : nlT Try.prog 47 = 0 := by kernel_rfl
theorem ag_47 : aggT Try.prog 47 = some false := by kernel_rfl
theorem sz_47 : sizeT Try.prog 47 = some 1 := by kernel_rfl
theorem ze_47 : zeroT Try.prog 47 = some [.cv .nilFunc] := by kernel_rfl
theorem nl_48 : nlT Try.prog 48 = 0 := by kernel_rfl
theorem ag_48 : aggT Try.prog 48 = some false := by kernel_rfl
theorem sz_48 : sizeT Try.prog 48 = some 1 := by kernel_rfl
theorem ze_48 : zeroT Try.prog 48 = some [.cv .nilFunc] := by kernel_rfl
theorem nl_49 : nlT Try.prog 49 = 0 := by kernel_rfl
theorem ag_49 : aggT Try.prog 49 = some false := by kernel_rfl
theorem sz_49 : sizeT Try.prog 49 = some 1 := by kernel_rfl
theorem ze_49 : zeroT Try.prog 49 = some [.cv .nilFunc] := by kernel_rfl
theorem nl_50 : nlT Try.prog 50 = 0 := by kernel_rfl
theorem ag_50 : aggT Try.prog 50 = some false := by kernel_rfl
theorem sz_50 : sizeT Try.prog 50 = some 1 := by kernel_rfl
theorem ze_50 : zeroT Try.prog 50 = some [.cv .nilFunc] := by kernel_rfl
theorem nl_51 : nlT Try.prog 51 = 0 := by kernel_rfl
theorem ag_51 : aggT Try.prog 51 = some false := by kernel_rfl
theorem sz_51 : sizeT Try.prog 51 = some 1 := by kernel_rfl
theorem ze_51 : zeroT Try.prog 51 = some [.cv .nilFunc] := by kernel_rfl
theorem nl_52 : nlT Try.prog 52 = 0 := by kernel_rfl
theorem ag_52 : aggT Try.prog 52 = some false := by kernel_rfl
theorem sz_52 : sizeT Try.prog 52 = some 1 := by kernel_rfl
theorem ze_52 : zeroT Try.prog 52 = some [.cv .nilFunc] := by kernel_rfl
theorem nl_53 : nlT Try.prog 53 = 0 := by kernel_rfl
theorem ag_53 : aggT Try.prog 53 = some false := by kernel_rfl
theorem sz_53 : sizeT Try.prog 53 = some 1 := by kernel_rfl
theorem ze_53 : zeroT Try.prog 53 = some [.cv .nilFunc] := by kernel_rfl
theorem nl_54 : nlT Try.prog 54 = 0 := by kernel_rfl
theorem ag_54 : aggT Try.prog 54 = some false := by kernel_rfl
theorem sz_54 : sizeT Try.prog 54 = some 1 := by kernel_rfl
theorem ze_54 : zeroT Try.prog 54 = some [.cv .nilFunc] := by kernel_rfl
theorem nl_55 : nlT Try.prog 55 = 0 := by kernel_rfl
theorem ag_55 : aggT Try.prog 55 = some false := by kernel_rfl
theorem sz_55 : sizeT Try.prog 55 = some 1 := by kernel_rfl
theorem ze_55 : zeroT Try.prog 55 = some [.cv .nilFunc] := by kernel_rfl
theorem nl_56 : nlT Try.prog 56 = 0 := by kernel_rfl
theorem ag_56 : aggT Try.prog 56 = some false := by kernel_rfl
theorem sz_56 : sizeT Try.prog 56 = some 1 := by kernel_rfl
theorem ze_56 : zeroT Try.prog 56 = some [.cv .nilFunc] := by kernel_rfl
theorem nl_57 : nlT Try.prog 57 = 0 := by kernel_rfl
theorem ag_57 : aggT Try.prog 57 = some false := by kernel_rfl
theorem sz_57 : sizeT Try.prog 57 = some 1 := by kernel_rfl
theorem ze_57 : zeroT Try.prog 57 = some [.cv .nilFunc] := by kernel_rfl
theorem nl_58 : nlT Try.prog 58 = 0 := by kernel_rfl
theorem ag_58 : aggT Try.prog 58 = some false := by kernel_rfl
theorem sz_58 : sizeT Try.prog 58 = some 1 := by kernel_rfl
theorem ze_58 : zeroT Try.prog 58 = some [.cv .nilFunc] := by kernel_rfl
theorem nl_59 : nlT Try.prog 59 = 0 := by kernel_rfl
theorem ag_59 : aggT Try.prog 59 = some false := by kernel_rfl
theorem sz_59 : sizeT Try.prog 59 = some 1 := by kernel_rfl
theorem in_59 : intT Try.prog 59 = some .u64 := by kernel_rfl
theorem ze_59 : zeroT Try.prog 59 = some [.t (.int .u64 0)] := by kernel_rfl
theorem nl_60 : nlT Try.prog 60 = 1 := by kernel_rfl
theorem ag_60 : aggT Try.prog 60 = some false := by kernel_rfl
theorem sz_60 : sizeT Try.prog 60 = some 1 := by kernel_rfl
theorem el_60 : elT Try.prog 60 = some 3 := by kernel_rfl
theorem by_3_60 : bytesT Try.prog 3 = some 8 := by kernel_rfl
theorem us_60 : u8S Try.prog 60 = false := by kernel_rfl
theorem in_60 : intT Try.prog 60 = none := by kernel_rfl
theorem ze_60 : zeroT Try.prog 60 = some [.nl 1] := by kernel_rfl
theorem nl_61 : nlT Try.prog 61 = 0 := by kernel_rfl
theorem ag_61 : aggT Try.prog 61 = some false := by kernel_rfl
theorem sz_61 : sizeT Try.prog 61 = some 1 := by kernel_rfl
theorem ze_61 : zeroT Try.prog 61 = some [.cv .nilFunc] := by kernel_rfl
theorem nl_62 : nlT Try.prog 62 = 0 := by kernel_rfl
theorem ag_62 : aggT Try.prog 62 = some false := by kernel_rfl
theorem sz_62 : sizeT Try.prog 62 = some 1 := by kernel_rfl
theorem ze_62 : zeroT Try.prog 62 = some [.cv .nilFunc] := by kernel_rfl
theorem nl_63 : nlT Try.prog 63 = 0 := by kernel_rfl
theorem ag_63 : aggT Try.prog 63 = some false := by kernel_rfl
theorem sz_63 : sizeT Try.prog 63 = some 1 := by kernel_rfl
theorem ze_63 : zeroT Try.prog 63 = some [.cv .nilFunc] := by kernel_rfl
theorem nl_64 : nlT Try.prog 64 = 0 := by kernel_rfl
theorem ag_64 : aggT Try.prog 64 = some false := by kernel_rfl
theorem sz_64 : sizeT Try.prog 64 = some 1 := by kernel_rfl
theorem ze_64 : zeroT Try.prog 64 = some [.cv .nilFunc] := by kernel_rfl
theorem nl_65 : nlT Try.prog 65 = 0 := by kernel_rfl
theorem ag_65 : aggT Try.prog 65 = some false := by kernel_rfl
theorem sz_65 : sizeT Try.prog 65 = some 1 := by kernel_rfl
theorem ze_65 : zeroT Try.prog 65 = some [.cv .nilFunc] := by kernel_rfl
theorem nl_66 : nlT Try.prog 66 = 0 := by kernel_rfl
theorem ag_66 : aggT Try.prog 66 = some false := by kernel_rfl
theorem sz_66 : sizeT Try.prog 66 = some 1 := by kernel_rfl
theorem ze_66 : zeroT Try.prog 66 = some [.cv .nilFunc] := by kernel_rfl
theorem nl_67 : nlT Try.prog 67 = 0 := by kernel_rfl
theorem ag_67 : aggT Try.prog 67 = some false := by kernel_rfl
theorem sz_67 : sizeT Try.prog 67 = some 1 := by kernel_rfl
theorem ze_67 : zeroT Try.prog 67 = some [.cv .nilFunc] := by kernel_rfl
theorem nl_68 : nlT Try.prog 68 = 0 := by kernel_rfl
theorem ag_68 : aggT Try.prog 68 = some false := by kernel_rfl
theorem sz_68 : sizeT Try.prog 68 = some 1 := by kernel_rfl
theorem ze_68 : zeroT Try.prog 68 = some [.cv .nilFunc] := by kernel_rfl
theorem nl_69 : nlT Try.prog 69 = 0 := by kernel_rfl
theorem ag_69 : aggT Try.prog 69 = some false := by kernel_rfl
theorem sz_69 : sizeT Try.prog 69 = some 1 := by kernel_rfl
theorem ze_69 : zeroT Try.prog 69 = some [.cv .nilFunc] := by kernel_rfl
theorem nl_70 : nlT Try.prog 70 = 0 := by kernel_rfl
theorem ag_70 : aggT Try.prog 70 = some false := by kernel_rfl
theorem sz_70 : sizeT Try.prog 70 = some 1 := by kernel_rfl
theorem in_70 : intT Try.prog 70 = some .i64 := by kernel_rfl
theorem ze_70 : zeroT Try.prog 70 = some [.t (.int .i64 0)] := by kernel_rfl
theorem nl_71 : nlT Try.prog 71 = 0 := by kernel_rfl
theorem nl_72 : nlT Try.prog 72 = 0 := by kernel_rfl
theorem ag_72 : aggT Try.prog 72 = some false := by kernel_rfl
theorem sz_72 : sizeT Try.prog 72 = some 1 := by kernel_rfl
theorem ze_72 : zeroT Try.prog 72 = some [.cv .nilFunc] := by kernel_rfl
theorem nl_73 : nlT Try.prog 73 = 0 := by kernel_rfl
theorem ag_73 : aggT Try.prog 73 = some false := by kernel_rfl
theorem sz_73 : sizeT Try.prog 73 = some 1 := by kernel_rfl
theorem ze_73 : zeroT Try.prog 73 = some [.cv .nilFunc] := by kernel_rfl
theorem nl_74 : nlT Try.prog 74 = 0 := by kernel_rfl
theorem ag_74 : aggT Try.prog 74 = some false := by kernel_rfl
theorem sz_74 : sizeT Try.prog 74 = some 1 := by kernel_rfl
theorem ze_74 : zeroT Try.prog 74 = some [.cv .nilFunc] := by kernel_rfl
theorem nl_75 : nlT Try.prog 75 = 0 := by kernel_rfl
theorem ag_75 : aggT Try.prog 75 = some false := by kernel_rfl
theorem sz_75 : sizeT Try.prog 75 = some 1 := by kernel_rfl
theorem ze_75 : zeroT Try.prog 75 = some [.cv .nilFunc] := by kernel_rfl
theorem nl_76 : nlT Try.prog 76 = 0 := by kernel_rfl
theorem nl_77 : nlT Try.prog 77 = 0 := by kernel_rfl
theorem ag_77 : aggT Try.prog 77 = some false := by kernel_rfl
theorem sz_77 : sizeT Try.prog 77 = some 1 := by kernel_rfl
theorem ze_77 : zeroT Try.prog 77 = some [.cv .nilFunc] := by kernel_rfl
theorem nl_78 : nlT Try.prog 78 = 0 := by kernel_rfl
theorem ag_78 : aggT Try.prog 78 = some false := by kernel_rfl
theorem sz_78 : sizeT Try.prog 78 = some 1 := by kernel_rfl
theorem ze_78 : zeroT Try.prog 78 = some [.cv .nilFunc] := by kernel_rfl
theorem nl_79 : nlT Try.prog 79 = 0 := by kernel_rfl
theorem ag_79 : aggT Try.prog 79 = some false := by kernel_rfl
theorem sz_79 : sizeT Try.prog 79 = some 1 := by kernel_rfl
theorem in_79 : intT Try.prog 79 = some .u32 := by kernel_rfl
theorem ze_79 : zeroT Try.prog 79 = some [.t (.int .u32 0)] := by kernel_rfl
theorem nl_80 : nlT Try.prog 80 = 0 := by kernel_rfl
theorem ag_80 : aggT Try.prog 80 = some false := by kernel_rfl
theorem sz_80 : sizeT Try.prog 80 = some 1 := by kernel_rfl
theorem ze_80 : zeroT Try.prog 80 = some [.cv .nilFunc] := by kernel_rfl
theorem nl_81 : nlT Try.prog 81 = 0 := by kernel_rfl
theorem ag_81 : aggT Try.prog 81 = some false := by kernel_rfl
theorem sz_81 : sizeT Try.prog 81 = some 1 := by kernel_rfl
theorem in_81 : intT Try.prog 81 = some .u64 := by kernel_rfl
theorem ze_81 : zeroT Try.prog 81 = some [.t (.int .u64 0)] := by kernel_rfl
theorem nl_82 : nlT Try.prog 82 = 0 := by kernel_rfl
theorem ag_82 : aggT Try.prog 82 = some false := by kernel_rfl
theorem sz_82 : sizeT Try.prog 82 = some 1 := by kernel_rfl
theorem ze_82 : zeroT Try.prog 82 = some [.cv .nilFunc] := by kernel_rfl
theorem nl_83 : nlT Try.prog 83 = 0 := by kernel_rfl
theorem ag_83 : aggT Try.prog 83 = some false := by kernel_rfl
theorem sz_83 : sizeT Try.prog 83 = some 1 := by kernel_rfl
theorem ze_83 : zeroT Try.prog 83 = some [.cv .nilFunc] := by kernel_rfl
theorem nl_84 : nlT Try.prog 84 = 0 := by kernel_rfl
theorem ag_84 : aggT Try.prog 84 = some false := by kernel_rfl
theorem sz_84 : sizeT Try.prog 84 = some 1 := by kernel_rfl
theorem ze_84 : zeroT Try.prog 84 = some [.cv .nilFunc] := by kernel_rfl
theorem nl_85 : nlT Try.prog 85 = 0 := by kernel_rfl
theorem ag_85 : aggT Try.prog 85 = some false := by kernel_rfl
theorem sz_85 : sizeT Try.prog 85 = some 1 := by kernel_rfl
theorem ze_85 : zeroT Try.prog 85 = some [.cv .nilFunc] := by kernel_rfl
theorem nl_86 : nlT Try.prog 86 = 0 := by kernel_rfl
theorem ag_86 : aggT Try.prog 86 = some false := by kernel_rfl
theorem sz_86 : sizeT Try.prog 86 = some 1 := by kernel_rfl
theorem ze_86 : zeroT Try.prog 86 = some [.cv .nilFunc] := by kernel_rfl
theorem nl_87 : nlT Try.prog 87 = 0 := by kernel_rfl
theorem ag_87 : aggT Try.prog 87 = some false := by kernel_rfl
theorem sz_87 : sizeT Try.prog 87 = some 1 := by kernel_rfl
theorem ze_87 : zeroT Try.prog 87 = some [.cv .nilFunc] := by kernel_rfl
theorem nl_88 : nlT Try.prog 88 = 0 := by kernel_rfl
theorem ag_88 : aggT Try.prog 88 = some false := by kernel_rfl
theorem sz_88 : sizeT Try.prog 88 = some 1 := by kernel_rfl
theorem ze_88 : zeroT Try.prog 88 = some [.cv .nilFunc] := by kernel_rfl
theorem nl_89 : nlT Try.prog 89 = 0 := by kernel_rfl
theorem ag_89 : aggT Try.prog 89 = some false := by kernel_rfl
theorem sz_89 : sizeT Try.prog 89 = some 1 := by kernel_rfl
theorem in_89 : intT Try.prog 89 = some .u64 := by kernel_rfl
theorem ze_89 : zeroT Try.prog 89 = some [.t (.int .u64 0)] := by kernel_rfl
theorem nl_90 : nlT Try.prog 90 = 0 := by kernel_rfl
theorem ag_90 : aggT Try.prog 90 = some false := by kernel_rfl
theorem sz_90 : sizeT Try.prog 90 = some 1 := by kernel_rfl
theorem ze_90 : zeroT Try.prog 90 = some [.cv .nilFunc] := by kernel_rfl
theorem nl_91 : nlT Try.prog 91 = 0 := by kernel_rfl
theorem ag_91 : aggT Try.prog 91 = some false := by kernel_rfl
theorem sz_91 : sizeT Try.prog 91 = some 1 := by kernel_rfl
theorem ze_91 : zeroT Try.prog 91 = some [.cv .nilFunc] := by kernel_rfl
theorem nl_92 : nlT Try.prog 92 = 0 := by kernel_rfl
theorem ag_92 : aggT Try.prog 92 = some false := by kernel_rfl
theorem sz_92 : sizeT Try.prog 92 = some 1 := by kernel_rfl
theorem ze_92 : zeroT Try.prog 92 = some [.cv .nilFunc] := by kernel_rfl
theorem nl_93 : nlT Try.prog 93 = 0 := by kernel_rfl
theorem ag_93 : aggT Try.prog 93 = some false := by kernel_rfl
theorem sz_93 : sizeT Try.prog 93 = some 1 := by kernel_rfl
theorem ze_93 : zeroT Try.prog 93 = some [.cv (.pointer none)] := by kernel_rfl
theorem nl_94 : nlT Try.prog 94 = 0 := by kernel_rfl
theorem ag_94 : aggT Try.prog 94 = some false := by kernel_rfl
theorem sz_94 : sizeT Try.prog 94 = some 1 := by kernel_rfl
theorem ze_94 : zeroT Try.prog 94 = some [.cv .nilFunc] := by kernel_rfl
theorem nl_95 : nlT Try.prog 95 = 0 := by kernel_rfl
theorem ag_95 : aggT Try.prog 95 = some false := by kernel_rfl
theorem sz_95 : sizeT Try.prog 95 = some 1 := by kernel_rfl
theorem ze_95 : zeroT Try.prog 95 = some [.cv .nilFunc] := by kernel_rfl
theorem nl_96 : nlT Try.prog 96 = 0 := by kernel_rfl
theorem ag_96 : aggT Try.prog 96 = some false := by kernel_rfl
theorem sz_96 : sizeT Try.prog 96 = some 1 := by kernel_rfl
theorem ze_96 : zeroT Try.prog 96 = some [.cv .nilFunc] := by kernel_rfl
theorem nl_97 : nlT Try.prog 97 = 0 := by kernel_rfl
theorem ag_97 : aggT Try.prog 97 = some false := by kernel_rfl
theorem sz_97 : sizeT Try.prog 97 = some 1 := by kernel_rfl
theorem ze_97 : zeroT Try.prog 97 = some [.cv .nilFunc] := by kernel_rfl
theorem nl_98 : nlT Try.prog 98 = 0 := by kernel_rfl
theorem ag_98 : aggT Try.prog 98 = some false := by kernel_rfl
theorem sz_98 : sizeT Try.prog 98 = some 1 := by kernel_rfl
theorem ze_98 : zeroT Try.prog 98 = some [.cv (.pointer none)] := by kernel_rfl
theorem nl_99 : nlT Try.prog 99 = 0 := by kernel_rfl
theorem nl_100 : nlT Try.prog 100 = 0 := by kernel_rfl
theorem ag_100 : aggT Try.prog 100 = some false := by kernel_rfl
theorem sz_100 : sizeT Try.prog 100 = some 1 := by kernel_rfl
theorem ze_100 : zeroT Try.prog 100 = some [.cv .nilFunc] := by kernel_rfl
theorem nl_101 : nlT Try.prog 101 = 0 := by kernel_rfl
theorem ag_101 : aggT Try.prog 101 = some false := by kernel_rfl
theorem sz_101 : sizeT Try.prog 101 = some 1 := by kernel_rfl
theorem ze_101 : zeroT Try.prog 101 = some [.cv .nilFunc] := by kernel_rfl
theorem nl_102 : nlT Try.prog 102 = 0 := by kernel_rfl
theorem ag_102 : aggT Try.prog 102 = some false := by kernel_rfl
theorem sz_102 : sizeT Try.prog 102 = some 1 := by kernel_rfl
theorem ze_102 : zeroT Try.prog 102 = some [.cv .nilFunc] := by kernel_rfl
theorem nl_103 : nlT Try.prog 103 = 0 := by kernel_rfl
theorem ag_103 : aggT Try.prog 103 = some false := by kernel_rfl
theorem sz_103 : sizeT Try.prog 103 = some 1 := by kernel_rfl
theorem ze_103 : zeroT Try.prog 103 = some [.cv .nilFunc] := by kernel_rfl
theorem nl_104 : nlT Try.prog 104 = 0 := by kernel_rfl
theorem ag_104 : aggT Try.prog 104 = some false := by kernel_rfl
theorem sz_104 : sizeT Try.prog 104 = some 1 := by kernel_rfl
theorem ze_104 : zeroT Try.prog 104 = some [.cv .nilFunc] := by kernel_rfl
theorem nl_105 : nlT Try.prog 105 = 0 := by kernel_rfl
theorem ag_105 : aggT Try.prog 105 = some true := by kernel_rfl
theorem sz_105 : sizeT Try.prog 105 = some 4 := by kernel_rfl
theorem ze_105 : zeroT Try.prog 105 = some [.cv (.pointer none), .cv (.pointer none), .cv (.pointer none), .t (.str [])] := by kernel_rfl
theorem pl_105 : plsT Try.prog 105 = some [(0, 1), (1, 1), (2, 1), (3, 1)] := by kernel_rfl
theorem fl_105_0 : fldT Try.prog 105 0 = some (0, 17) := by kernel_rfl
theorem ft_105_0 : ftyT Try.prog 105 0 = 17 := by kernel_rfl
theorem fl_105_1 : fldT Try.prog 105 1 = some (1, 17) := by kernel_rfl
theorem ft_105_1 : ftyT Try.prog 105 1 = 17 := by kernel_rfl
theorem fl_105_2 : fldT Try.prog 105 2 = some (2, 17) := by kernel_rfl
theorem ft_105_2 : ftyT Try.prog 105 2 = 17 := by kernel_rfl
theorem fl_105_3 : fldT Try.prog 105 3 = some (3, 9) := by kernel_rfl
theorem ft_105_3 : ftyT Try.prog 105 3 = 9 := by kernel_rfl
theorem nl_106 : nlT Try.prog 106 = 0 := by kernel_rfl
theorem ag_106 : aggT Try.prog 106 = some true := by kernel_rfl
theorem sz_106 : sizeT Try.prog 106 = some 4 := by kernel_rfl
theorem ze_106 : zeroT Try.prog 106 = some [.cv (.pointer none), .cv (.pointer none), .cv (.pointer none), .t (.str [])] := by kernel_rfl
theorem pl_106 : plsT Try.prog 106 = some [(0, 1), (1, 1), (2, 1), (3, 1)] := by kernel_rfl
theorem fl_106_0 : fldT Try.prog 106 0 = some (0, 17) := by kernel_rfl
theorem ft_106_0 : ftyT Try.prog 106 0 = 17 := by kernel_rfl
theorem fl_106_1 : fldT Try.prog 106 1 = some (1, 17) := by kernel_rfl
theorem ft_106_1 : ftyT Try.prog 106 1 = 17 := by kernel_rfl
theorem fl_106_2 : fldT Try.prog 106 2 = some (2, 17) := by kernel_rfl
theorem ft_106_2 : ftyT Try.prog 106 2 = 17 := by kernel_rfl
theorem fl_106_3 : fldT Try.prog 106 3 = some (3, 9) := by kernel_rfl
theorem ft_106_3 : ftyT Try.prog 106 3 = 9 := by kernel_rfl
theorem nl_107 : nlT Try.prog 107 = 0 := by kernel_rfl
theorem ag_107 : aggT Try.prog 107 = some true := by kernel_rfl
theorem sz_107 : sizeT Try.prog 107 = some 0 := by kernel_rfl
theorem nl_108 : nlT Try.prog 108 = 0 := by kernel_rfl
theorem ag_108 : aggT Try.prog 108 = some true := by kernel_rfl
theorem sz_108 : sizeT Try.prog 108 = some 0 := by kernel_rfl
theorem pl_108 : plsT Try.prog 108 = some [(0, 0)] := by kernel_rfl
theorem fl_108_0 : fldT Try.prog 108 0 = some (0, 107) := by kernel_rfl
theorem ft_108_0 : ftyT Try.prog 108 0 = 107 := by kernel_rfl
theorem nl_109 : nlT Try.prog 109 = 0 := by kernel_rfl
theorem ag_109 : aggT Try.prog 109 = some true := by kernel_rfl
theorem sz_109 : sizeT Try.prog 109 = some 0 := by kernel_rfl
theorem pl_109 : plsT Try.prog 109 = some [(0, 0)] := by kernel_rfl
theorem fl_109_0 : fldT Try.prog 109 0 = some (0, 107) := by kernel_rfl
theorem ft_109_0 : ftyT Try.prog 109 0 = 107 := by kernel_rfl
theorem nl_110 : nlT Try.prog 110 = 0 := by kernel_rfl
theorem ag_110 : aggT Try.prog 110 = some false := by kernel_rfl
theorem sz_110 : sizeT Try.prog 110 = some 1 := by kernel_rfl
theorem ze_110 : zeroT Try.prog 110 = some [.cv .nilFunc] := by kernel_rfl
theorem nl_111 : nlT Try.prog 111 = 0 := by kernel_rfl
theorem ag_111 : aggT Try.prog 111 = some false := by kernel_rfl
theorem sz_111 : sizeT Try.prog 111 = some 1 := by kernel_rfl
theorem in_111 : intT Try.prog 111 = some .u8 := by kernel_rfl
theorem ze_111 : zeroT Try.prog 111 = some [.t (.int .u8 0)] := by kernel_rfl
theorem nl_112 : nlT Try.prog 112 = 0 := by kernel_rfl
theorem ag_112 : aggT Try.prog 112 = some false := by kernel_rfl
theorem sz_112 : sizeT Try.prog 112 = some 1 := by kernel_rfl
theorem in_112 : intT Try.prog 112 = some .u8 := by kernel_rfl
theorem ze_112 : zeroT Try.prog 112 = some [.t (.int .u8 0)] := by kernel_rfl
theorem nl_113 : nlT Try.prog 113 = 0 := by kernel_rfl
theorem ag_113 : aggT Try.prog 113 = some false := by kernel_rfl
theorem sz_113 : sizeT Try.prog 113 = some 1 := by kernel_rfl
theorem ze_113 : zeroT Try.prog 113 = some [.cv .nilFunc] := by kernel_rfl
theorem nl_114 : nlT Try.prog 114 = 0 := by kernel_rfl
theorem ag_114 : aggT Try.prog 114 = some false := by kernel_rfl
theorem sz_114 : sizeT Try.prog 114 = some 1 := by kernel_rfl
theorem ze_114 : zeroT Try.prog 114 = some [.cv (.pointer none)] := by kernel_rfl
theorem nl_115 : nlT Try.prog 115 = 0 := by kernel_rfl
theorem ag_115 : aggT Try.prog 115 = some false := by kernel_rfl
theorem sz_115 : sizeT Try.prog 115 = some 1 := by kernel_rfl
theorem in_115 : intT Try.prog 115 = some .i32 := by kernel_rfl
theorem ze_115 : zeroT Try.prog 115 = some [.t (.int .i32 0)] := by kernel_rfl
theorem nl_116 : nlT Try.prog 116 = 0 := by kernel_rfl
theorem ag_116 : aggT Try.prog 116 = some false := by kernel_rfl
theorem sz_116 : sizeT Try.prog 116 = some 1 := by kernel_rfl
theorem in_116 : intT Try.prog 116 = some .i32 := by kernel_rfl
theorem ze_116 : zeroT Try.prog 116 = some [.t (.int .i32 0)] := by kernel_rfl
theorem nl_117 : nlT Try.prog 117 = 0 := by kernel_rfl
theorem ag_117 : aggT Try.prog 117 = some true := by kernel_rfl
theorem sz_117 : sizeT Try.prog 117 = some 11 := by kernel_rfl
theorem ze_117 : zeroT Try.prog 117 = some [.t (.int .u64 0), .t (.int .u64 0), .t (.int .u32 0), .t (.int .u8 0), .t (.int .u8 0), .t (.int .u8 0), .t (.int .u8 0), .cv .nilFunc, .cv (.pointer none), .t (.int .i32 0), .t (.int .i32 0)] := by kernel_rfl
theorem pl_117 : plsT Try.prog 117 = some [(0, 1), (1, 1), (2, 1), (3, 1), (4, 1), (5, 1), (6, 1), (7, 1), (8, 1), (9, 1), (10, 1)] := by kernel_rfl
theorem fl_117_0 : fldT Try.prog 117 0 = some (0, 12) := by kernel_rfl
theorem ft_117_0 : ftyT Try.prog 117 0 = 12 := by kernel_rfl
theorem fl_117_1 : fldT Try.prog 117 1 = some (1, 12) := by kernel_rfl
theorem ft_117_1 : ftyT Try.prog 117 1 = 12 := by kernel_rfl
theorem fl_117_2 : fldT Try.prog 117 2 = some (2, 79) := by kernel_rfl
theorem ft_117_2 : ftyT Try.prog 117 2 = 79 := by kernel_rfl
theorem fl_117_3 : fldT Try.prog 117 3 = some (3, 111) := by kernel_rfl
theorem ft_117_3 : ftyT Try.prog 117 3 = 111 := by kernel_rfl
theorem fl_117_4 : fldT Try.prog 117 4 = some (4, 5) := by kernel_rfl
theorem ft_117_4 : ftyT Try.prog 117 4 = 5 := by kernel_rfl
theorem fl_117_5 : fldT Try.prog 117 5 = some (5, 5) := by kernel_rfl
theorem ft_117_5 : ftyT Try.prog 117 5 = 5 := by kernel_rfl
theorem fl_117_6 : fldT Try.prog 117 6 = some (6, 112) := by kernel_rfl
theorem ft_117_6 : ftyT Try.prog 117 6 = 112 := by kernel_rfl
theorem fl_117_7 : fldT Try.prog 117 7 = some (7, 113) := by kernel_rfl
theorem ft_117_7 : ftyT Try.prog 117 7 = 113 := by kernel_rfl
theorem fl_117_8 : fldT Try.prog 117 8 = some (8, 114) := by kernel_rfl
theorem ft_117_8 : ftyT Try.prog 117 8 = 114 := by kernel_rfl
theorem fl_117_9 : fldT Try.prog 117 9 = some (9, 115) := by kernel_rfl
theorem ft_117_9 : ftyT Try.prog 117 9 = 115 := by kernel_rfl
theorem fl_117_10 : fldT Try.prog 117 10 = some (10, 116) := by kernel_rfl
theorem ft_117_10 : ftyT Try.prog 117 10 = 116 := by kernel_rfl
theorem nl_118 : nlT Try.prog 118 = 0 := by kernel_rfl
theorem ag_118 : aggT Try.prog 118 = some true := by kernel_rfl
theorem sz_118 : sizeT Try.prog 118 = some 11 := by kernel_rfl
theorem ze_118 : zeroT Try.prog 118 = some [.t (.int .u64 0), .t (.int .u64 0), .t (.int .u32 0), .t (.int .u8 0), .t (.int .u8 0), .t (.int .u8 0), .t (.int .u8 0), .cv .nilFunc, .cv (.pointer none), .t (.int .i32 0), .t (.int .i32 0)] := by kernel_rfl
theorem pl_118 : plsT Try.prog 118 = some [(0, 1), (1, 1), (2, 1), (3, 1), (4, 1), (5, 1), (6, 1), (7, 1), (8, 1), (9, 1), (10, 1)] := by kernel_rfl
theorem fl_118_0 : fldT Try.prog 118 0 = some (0, 12) := by kernel_rfl
theorem ft_118_0 : ftyT Try.prog 118 0 = 12 := by kernel_rfl
theorem fl_118_1 : fldT Try.prog 118 1 = some (1, 12) := by kernel_rfl
theorem ft_118_1 : ftyT Try.prog 118 1 = 12 := by kernel_rfl
theorem fl_118_2 : fldT Try.prog 118 2 = some (2, 79) := by kernel_rfl
theorem ft_118_2 : ftyT Try.prog 118 2 = 79 := by kernel_rfl
theorem fl_118_3 : fldT Try.prog 118 3 = some (3, 111) := by kernel_rfl
theorem ft_118_3 : ftyT Try.prog 118 3 = 111 := by kernel_rfl
theorem fl_118_4 : fldT Try.prog 118 4 = some (4, 5) := by kernel_rfl
theorem ft_118_4 : ftyT Try.prog 118 4 = 5 := by kernel_rfl
theorem fl_118_5 : fldT Try.prog 118 5 = some (5, 5) := by kernel_rfl
theorem ft_118_5 : ftyT Try.prog 118 5 = 5 := by kernel_rfl
theorem fl_118_6 : fldT Try.prog 118 6 = some (6, 112) := by kernel_rfl
theorem ft_118_6 : ftyT Try.prog 118 6 = 112 := by kernel_rfl
theorem fl_118_7 : fldT Try.prog 118 7 = some (7, 113) := by kernel_rfl
theorem ft_118_7 : ftyT Try.prog 118 7 = 113 := by kernel_rfl
theorem fl_118_8 : fldT Try.prog 118 8 = some (8, 114) := by kernel_rfl
theorem ft_118_8 : ftyT Try.prog 118 8 = 114 := by kernel_rfl
theorem fl_118_9 : fldT Try.prog 118 9 = some (9, 115) := by kernel_rfl
theorem ft_118_9 : ftyT Try.prog 118 9 = 115 := by kernel_rfl
theorem fl_118_10 : fldT Try.prog 118 10 = some (10, 116) := by kernel_rfl
theorem ft_118_10 : ftyT Try.prog 118 10 = 116 := by kernel_rfl
theorem nl_119 : nlT Try.prog 119 = 0 := by kernel_rfl
theorem ag_119 : aggT Try.prog 119 = some false := by kernel_rfl
theorem sz_119 : sizeT Try.prog 119 = some 1 := by kernel_rfl
theorem ap_22 : apT Try.prog 22 2 := apT_mk el_22 sz_24 by_24_22 (by decide) ze_24 rfl
theorem ap_25 : apT Try.prog 25 5 := apT_mk el_25 sz_27 by_27_25 (by decide) ze_27 rfl
theorem ap_30 : apT Try.prog 30 2 := apT_mk el_30 sz_32 by_32_30 (by decide) ze_32 rfl
theorem ap_33 : apT Try.prog 33 5 := apT_mk el_33 sz_35 by_35_33 (by decide) ze_35 rfl
theorem ap_43 : apT Try.prog 43 1 := apT_mk el_43 sz_9 by_9_43 (by decide) ze_9 rfl
theorem ap_60 : apT Try.prog 60 1 := apT_mk el_60 sz_3 by_3_60 (by decide) ze_3 rfl
attribute [go_sem] nl_0 nl_1 ag_1 sz_1 ze_1 nl_2 ag_2 sz_2 in_2 ze_2 nl_3 ag_3 sz_3 in_3 ze_3 nl_4 ag_4 sz_4 bo_4 ze_4 nl_5 ag_5 sz_5 in_5 ze_5 nl_6 ag_6 sz_6 in_6 ze_6 nl_7 ag_7 sz_7 ze_7 pl_7 fl_7_0 ft_7_0 fl_7_1 ft_7_1 fl_7_2 ft_7_2 fl_7_3 ft_7_3 nl_8 ag_8 sz_8 ze_8 pl_8 fl_8_0 ft_8_0 fl_8_1 ft_8_1 fl_8_2 ft_8_2 fl_8_3 ft_8_3 nl_9 ag_9 sz_9 in_9 st_9 ze_9 nl_10 ag_10 sz_10 in_10 st_10 ze_10 nl_11 ag_11 sz_11 in_11 st_11 ze_11 nl_12 ag_12 sz_12 in_12 ze_12 nl_13 ag_13 sz_13 ze_13 pl_13 fl_13_0 ft_13_0 fl_13_1 ft_13_1 nl_14 ag_14 sz_14 ze_14 pl_14 fl_14_0 ft_14_0 fl_14_1 ft_14_1 nl_15 ag_15 sz_15 ze_15 nl_16 ag_16 sz_16 ze_16 nl_17 ag_17 sz_17 ze_17 nl_18 ag_18 sz_18 ze_18 pl_18 fl_18_0 ft_18_0 nl_19 ag_19 sz_19 ze_19 pl_19 fl_19_0 ft_19_0 nl_20 ag_20 sz_20 ze_20 nl_21 ag_21 sz_21 in_21 ze_21 nl_22 ag_22 sz_22 el_22 by_24_22 us_22 in_22 ze_22 nl_23 ag_23 sz_23 ze_23 pl_23 fl_23_0 ft_23_0 fl_23_1 ft_23_1 nl_24 ag_24 sz_24 ze_24 pl_24 fl_24_0 ft_24_0 fl_24_1 ft_24_1 nl_25 ag_25 sz_25 el_25 by_27_25 us_25 in_25 ze_25 nl_26 ag_26 sz_26 ze_26 pl_26 fl_26_0 ft_26_0 fl_26_1 ft_26_1 fl_26_2 ft_26_2 fl_26_3 ft_26_3 nl_27 ag_27 sz_27 ze_27 pl_27 fl_27_0 ft_27_0 fl_27_1 ft_27_1 fl_27_2 ft_27_2 fl_27_3 ft_27_3 nl_28 ag_28 sz_28 ze_28 nl_29 ag_29 sz_29 ze_29 nl_30 ag_30 sz_30 el_30 by_32_30 us_30 in_30 ze_30 nl_31 ag_31 sz_31 ze_31 pl_31 fl_31_0 ft_31_0 fl_31_1 ft_31_1 nl_32 ag_32 sz_32 ze_32 pl_32 fl_32_0 ft_32_0 fl_32_1 ft_32_1 nl_33 ag_33 sz_33 el_33 by_35_33 us_33 in_33 ze_33 nl_34 ag_34 sz_34 ze_34 pl_34 fl_34_0 ft_34_0 fl_34_1 ft_34_1 fl_34_2 ft_34_2 fl_34_3 ft_34_3 nl_35 ag_35 sz_35 ze_35 pl_35 fl_35_0 ft_35_0 fl_35_1 ft_35_1 fl_35_2 ft_35_2 fl_35_3 ft_35_3 nl_36 ag_36 sz_36 ze_36 nl_37 ag_37 sz_37 ze_37 nl_38 ag_38 sz_38 ze_38 nl_39 ag_39 sz_39 ze_39 nl_40 ag_40 sz_40 ze_40 nl_41 ag_41 sz_41 ze_41 nl_42 ag_42 sz_42 ze_42 nl_43 ag_43 sz_43 el_43 by_9_43 us_43 in_43 ze_43 nl_44 ag_44 sz_44 ze_44 nl_45 nl_46 ag_46 sz_46 ze_46 nl_47 ag_47 sz_47 ze_47 nl_48 ag_48 sz_48 ze_48 nl_49 ag_49 sz_49 ze_49 nl_50 ag_50 sz_50 ze_50 nl_51 ag_51 sz_51 ze_51 nl_52 ag_52 sz_52 ze_52 nl_53 ag_53 sz_53 ze_53 nl_54 ag_54 sz_54 ze_54 nl_55 ag_55 sz_55 ze_55 nl_56 ag_56 sz_56 ze_56 nl_57 ag_57 sz_57 ze_57 nl_58 ag_58 sz_58 ze_58 nl_59 ag_59 sz_59 in_59 ze_59 nl_60 ag_60 sz_60 el_60 by_3_60 us_60 in_60 ze_60 nl_61 ag_61 sz_61 ze_61 nl_62 ag_62 sz_62 ze_62 nl_63 ag_63 sz_63 ze_63 nl_64 ag_64 sz_64 ze_64 nl_65 ag_65 sz_65 ze_65 nl_66 ag_66 sz_66 ze_66 nl_67 ag_67 sz_67 ze_67 nl_68 ag_68 sz_68 ze_68 nl_69 ag_69 sz_69 ze_69 nl_70 ag_70 sz_70 in_70 ze_70 nl_71 nl_72 ag_72 sz_72 ze_72 nl_73 ag_73 sz_73 ze_73 nl_74 ag_74 sz_74 ze_74 nl_75 ag_75 sz_75 ze_75 nl_76 nl_77 ag_77 sz_77 ze_77 nl_78 ag_78 sz_78 ze_78 nl_79 ag_79 sz_79 in_79 ze_79 nl_80 ag_80 sz_80 ze_80 nl_81 ag_81 sz_81 in_81 ze_81 nl_82 ag_82 sz_82 ze_82 nl_83 ag_83 sz_83 ze_83 nl_84 ag_84 sz_84 ze_84 nl_85 ag_85 sz_85 ze_85 nl_86 ag_86 sz_86 ze_86 nl_87 ag_87 sz_87 ze_87 nl_88 ag_88 sz_88 ze_88 nl_89 ag_89 sz_89 in_89 ze_89 nl_90 ag_90 sz_90 ze_90 nl_91 ag_91 sz_91 ze_91 nl_92 ag_92 sz_92 ze_92 nl_93 ag_93 sz_93 ze_93 nl_94 ag_94 sz_94 ze_94 nl_95 ag_95 sz_95 ze_95 nl_96 ag_96 sz_96 ze_96 nl_97 ag_97 sz_97 ze_97 nl_98 ag_98 sz_98 ze_98 nl_99 nl_100 ag_100 sz_100 ze_100 nl_101 ag_101 sz_101 ze_101 nl_102 ag_102 sz_102 ze_102 nl_103 ag_103 sz_103 ze_103 nl_104 ag_104 sz_104 ze_104 nl_105 ag_105 sz_105 ze_105 pl_105 fl_105_0 ft_105_0 fl_105_1 ft_105_1 fl_105_2 ft_105_2 fl_105_3 ft_105_3 nl_106 ag_106 sz_106 ze_106 pl_106 fl_106_0 ft_106_0 fl_106_1 ft_106_1 fl_106_2 ft_106_2 fl_106_3 ft_106_3 nl_107 ag_107 sz_107 nl_108 ag_108 sz_108 pl_108 fl_108_0 ft_108_0 nl_109 ag_109 sz_109 pl_109 fl_109_0 ft_109_0 nl_110 ag_110 sz_110 ze_110 nl_111 ag_111 sz_111 in_111 ze_111 nl_112 ag_112 sz_112 in_112 ze_112 nl_113 ag_113 sz_113 ze_113 nl_114 ag_114 sz_114 ze_114 nl_115 ag_115 sz_115 in_115 ze_115 nl_116 ag_116 sz_116 in_116 ze_116 nl_117 ag_117 sz_117 ze_117 pl_117 fl_117_0 ft_117_0 fl_117_1 ft_117_1 fl_117_2 ft_117_2 fl_117_3 ft_117_3 fl_117_4 ft_117_4 fl_117_5 ft_117_5 fl_117_6 ft_117_6 fl_117_7 ft_117_7 fl_117_8 ft_117_8 fl_117_9 ft_117_9 fl_117_10 ft_117_10 nl_118 ag_118 sz_118 ze_118 pl_118 fl_118_0 ft_118_0 fl_118_1 ft_118_1 fl_118_2 ft_118_2 fl_118_3 ft_118_3 fl_118_4 ft_118_4 fl_118_5 ft_118_5 fl_118_6 ft_118_6 fl_118_7 ft_118_7 fl_118_8 ft_118_8 fl_118_9 ft_118_9 fl_118_10 ft_118_10 nl_119 ag_119 sz_119 ap_22 ap_25 ap_30 ap_33 ap_43 ap_60
attribute [go_sem] Nat.reduceEqDiff reduceIte reduceCtorEq Nat.reduceAdd Nat.reduceMul Int.reduceLE Int.reduceNeg Int.reduceToNat Nat.reduceLeDiff Nat.reduceSub Nat.reduceLT Nat.le_refl Int.cast_ofNat_Int Int.reduceLT Int.reduceGT Int.reduceGE Int.reduceEq Int.reduceBEq Nat.reduceBEq Int.reduceBNe Int.reduceAdd Int.reduceSub gt_iff_lt ge_iff_le
end Go.Proofs.Ytfppgpojemdijaa
