import Derived.Test.YtgfjbbbkploonaaQ4
import Derived.RangeFuncNested
import Derived.RangeFuncLeaves
import Derived.Test.YtgfjbbbkploonaaProg
import Derived.KernelRfl
/-
  The walk over plain data within a round of a range over a function, and behind such a loop.
  Conditions: none.
-/
namespace Go.Proofs.Ytgfjbbbkploonaa
set_option linter.unusedSimpArgs false
set_option linter.unusedVariables false
set_option maxRecDepth 4000
open Go.RowKit
variable {P : Program}
/-- Any function, any depth; in a round or not. -/
abbrev FR (r : Option Nat) : Fence := { Fence.wide with round := r }
theorem callsIn_FR {r : Option Nat} {n : Nat} {f : FuncId} {args : Array Value} {w : World} {R : Ending → World → Prop} : CallsIn (FR r) n P f args w R ↔ Calls P f args w R :=
  (callsIn_wide (n := n) : CallsIn Fence.wide n P f args w R ↔ _)
theorem room_FR {r : Option Nat} (n : Nat) : (FR r).room n := fun d hd => by cases hd
/-- The operation is no defer statement. -/
def Oper.nodef (o : Oper) : Bool := match o.op with | .defer _ => false | _ => true
theorem nodef_ne {o : Oper} (h : Oper.nodef o = true) : ∀ c, o.op ≠ .defer c := fun c hc => by simp [Oper.nodef, hc] at h
theorem put_defers (a : Act) (d : Option Nat) (v : Value) (ds : List Deferred) : ({ a with defers := ds } : Act).put d v = { a.put d v with defers := ds } := by cases d <;> rfl
theorem put_defers' (a : Act) (d : Option Nat) (v : Value) : (a.put d v).defers = a.defers := by cases d <;> rfl
theorem operIn {r : Option Nat} {n : Nat} {o : Oper} {a : Act} {w : World} {K : Act → World → Prop} {ds : List Deferred} {K' : Act → World → Prop} {Q : Exit → Act → World → Prop} (hnd : Oper.nodef o = true) (hK : ∀ a w, K a w → a.defers = []) (h : o.wp P a w K (fun _ _ _ => False))
    (hK' : ∀ v w', K (a.put o.dst v) w' → K' { a.put o.dst v with defers := ds } w') : o.wpIn (FR r) n P { a with defers := ds } w K' Q := by
  unfold Oper.wp at h
  refine ⟨fun _ _ => trivial, ?_⟩
  rw [Oper.semAt_eq _ _ _ (nodef_ne hnd)]
  show o.uponIn (FR r) n P { a with defers := ds } K' Q ((execOp a.eval o).run P w)
  generalize (execOp a.eval o).run P w = x at h
  cases x with
  | ok nx w' =>
    cases nx with
    | value v => show K' _ _; rw [put_defers]; exact hK' v w' h
    | skip => show K' _ _; rw [put_defers]; exact hK' _ w' h
    | defer d => exact absurd (hK _ _ h) (by rw [put_defers']; simp)
    | enter f args =>
      refine ⟨(by intro h; cases h), callsIn_FR.2 (Calls.mono h fun e w'' he => ?_)⟩
      cases e with
      | returned v => show K' _ _; rw [put_defers]; exact hK' v w'' he
      | panicked c => exact he.elim
      | outgrown => obtain ⟨_, _, hx⟩ := he; exact hx.elim
    | row row args =>
      refine ⟨(by intro h; cases h), fun c cs _ => ?_⟩
      obtain ⟨v, w'', h1, h2⟩ := h c cs
      refine ⟨v, w'', ?_, stepsIn_wide.2 h2⟩
      show K' _ _; rw [put_defers]; exact hK' v w'' h1
    | _ => exact (show False from h).elim
  | halt x w' => cases x <;> exact (show False from h).elim
/-- The slots outside D are alike. -/
def Ag (D : Nat → Prop) (a a' : Act) : Prop := ∀ i, ¬ D i → a'.tmps.getD i undef = a.tmps.getD i undef
theorem Ag.refl (D : Nat → Prop) (a : Act) : Ag D a a := fun _ _ => rfl
theorem Ag.put {D : Nat → Prop} {a0 a : Act} (h : Ag D a0 a) {d : Option Nat} (hd : ∀ i, d = some i → D i) (v : Value) : Ag D a0 (a.put d v) := fun i hi => by
  cases d with
  | none => exact h i hi
  | some j =>
    have hij : i ≠ j := fun e => hi (e ▸ hd j rfl)
    rw [show (a.put (some j) v).tmps = a.tmps.setIfInBounds j v from rfl, getD_set_ne' a hij]
    exact h i hi
/-- What holds at the end of a piece that was walked in a round, or with marks. -/
def EndsD (n0 : Nat → Prop) (N : Nat) (w0 : World) (A0 : (Nat → Prop) × RP) (ds : List Deferred) (D : Nat → Prop) (a0 : Act) (Q : Exit → St → Prop) (e : Exit) (a : Act) (w : World) : Prop := ∃ a1, a = { a1 with defers := ds } ∧ Ag D a0 a1 ∧ Ends n0 N w0 A0 Q e a1 w
theorem ops_soundD {ops : Array Oper} {K : St → Prop} {n0 : Nat → Prop} {N : Nat} {w0 : World} {A0 : (Nat → Prop) × RP} {r : Option Nat} {n : Nat} {ds : List Deferred} {D : Nat → Prop} {a0 : Act} {R : Exit → Act → World → Prop}
    (hR : ∀ a w σ g, K σ → Rel n0 N σ g a w → LtK n0 w → Bk n0 w0 w → (g.A0, g.R0) = A0 → Ag D a0 a → R .normal { a with defers := ds } w) :
    ∀ (k i : Nat), i + k = ops.size → (∀ o ∈ ops.toList, Oper.nodef o = true ∧ ∀ d, o.dst = some d → d < N ∧ D d) → ∀ (σ : St) (g : Gh) (a : Act) (w : World), execOps P ops (ops.toList.drop i) σ K → Rel n0 N σ g a w → LtK n0 w → Bk n0 w0 w → (g.A0, g.R0) = A0 → Ag D a0 a → wpOpsIn (FR r) n P ops R (List.range' i k) { a with defers := ds } w
  | 0, i, hi, hd, σ, g, a, w, h, hr, hn, hb, hA, hg => by
    have : ops.toList.drop i = [] := List.drop_of_length_le (by simp; omega)
    rw [this] at h
    exact hR a w σ g h hr hn hb hA hg
  | k + 1, i, hi, hd, σ, g, a, w, h, hr, hn, hb, hA, hg => by
    have hlt : i < ops.size := by omega
    have hcons : ops.toList.drop i = ops[i] :: ops.toList.drop (i + 1) := by
      rw [List.drop_eq_getElem_cons (by simpa using hlt)]; rfl
    rw [hcons] at h
    rw [show List.range' i (k + 1) = i :: List.range' (i + 1) k from rfl]
    have ho : ops[i]? = some ops[i] := by simp [hlt]
    obtain ⟨hnd, hdi⟩ := hd ops[i] (by simp)
    have next : ∀ σ' a' w', (∃ g', Rel n0 N σ' g' a' w' ∧ Bk n0 w w' ∧ g'.A0 = g.A0 ∧ g'.R0 = g.R0) → Ag D a0 a' → execOps P ops (ops.toList.drop (i + 1)) σ' K → wpOpsIn (FR r) n P ops R (List.range' (i + 1) k) { a' with defers := ds } w' := by
      rintro σ' a' w' ⟨g', k1, k2, k3, k4⟩ hg' hK
      exact ops_soundD hR k (i + 1) (by omega) hd σ' g' a' w' hK k1 (hn.mono k2.size) (hb.trans k2) (by rw [k3, k4]; exact hA) hg'
    have run : ∀ σ0, σ0 = σ → execOp1 P ops[i] σ0 (fun σ' => execOps P ops (ops.toList.drop (i + 1)) σ' K) → ops[i].wpIn (FR r) n P { a with defers := ds } w (wpOpsIn (FR r) n P ops R (List.range' (i + 1) k)) R := fun σ0 e0 h1 => by
      subst e0
      exact operIn hnd (fun a' w' ⟨σ', g', h0, hh⟩ => hh.1.defers) (execOp1_sound h1 n0 N g a w hr hn fun d hd => (hdi d hd).1) fun v w' ⟨σ', g', h0, hh⟩ => next σ' _ w' ⟨g', hh⟩ (hg.put (fun d hd => (hdi d hd).2) v) h0
    simp only [wpOpsIn, ho]
    unfold execOps exG at h
    split at h
    · rename_i hg0
      have : Region.wanted ops[i] (yielded ops a.tmps) = true := by simp [Region.wanted, hg0]
      rw [if_pos this]
      exact run σ rfl h
    · rename_i j want hg0
      split at h
      · rename_i d hdj
        split at h
        · rename_i c hc
          have hv := hr.slots d
          rw [hc] at hv
          simp only [VR, CR, RepV] at hv
          have hy : yielded ops a.tmps j = some c := by
            unfold yielded
            rw [hdj]
            simp only [Option.bind_some]
            cases ht : a.tmps[d]? with
            | none => rw [Array.getD_eq_getD_getElem?, ht] at hv; exact absurd hv (g.R0.nb _ _)
            | some u => rw [Array.getD_eq_getD_getElem?, ht] at hv; simp only [Option.getD_some] at hv; subst hv; rfl
          have hw : Region.wanted ops[i] (yielded ops a.tmps) = (c == want) := by
            unfold Region.wanted
            rw [hg0]
            simp only [hy]
            cases c <;> cases want <;> rfl
          rw [hw]
          by_cases hcw : c = want
          · subst hcw
            simp only [beq_self_eq_true, if_true]
            exact run _ (put_self hc) (h.1 rfl)
          · have hne : (c == want) = false := by simpa using hcw
            rw [hne]
            simp only [Bool.false_eq_true, if_false]
            have hnot : c = !want := by cases c <;> cases want <;> simp_all
            have hh := h.2 hnot
            rw [← hnot, put_self hc] at hh
            refine ⟨fun _ _ => trivial, ?_⟩
            rw [put_defers]
            exact next _ _ _ ⟨g, hr.put _ (x := .tup []) ⟨[], rfl, rfl⟩ fun d hd => (hdi d hd).1, Bk.refl _ _, rfl, rfl⟩ (hg.put (fun d hd => (hdi d hd).2) _) hh
        · rename_i xs hc
          have hv := hr.slots d
          rw [hc] at hv
          obtain ⟨vs, hv, _⟩ := hv
          have hy : yielded ops a.tmps j = none := by
            unfold yielded
            rw [hdj]
            simp only [Option.bind_some]
            cases ht : a.tmps[d]? with
            | none => rfl
            | some u => rw [Array.getD_eq_getD_getElem?, ht] at hv; simp only [Option.getD_some] at hv; subst hv; rfl
          have hw : Region.wanted ops[i] (yielded ops a.tmps) = false := by
            unfold Region.wanted
            rw [hg0]
            simp only [hy]
            rfl
          rw [hw]
          simp only [Bool.false_eq_true, if_false]
          refine ⟨fun _ _ => trivial, ?_⟩
          rw [put_defers]
          exact next _ _ _ ⟨g, hr.put _ (x := .tup []) ⟨[], rfl, rfl⟩ fun d hd => (hdi d hd).1, Bk.refl _ _, rfl, rfl⟩ (hg.put (fun d hd => (hdi d hd).2) _) h
        · exact h.elim
      · exact h.elim
/-- A piece that runs in a round, too: no drawn regions, no loops, no defer statements. -/
def plainC : Code → Bool
  | .region _ ops false => ops.all Oper.nodef
  | .seq a b => plainC a && plainC b
  | .cond _ a b => plainC a && plainC b
  | .block _ b => plainC b
  | .skip => true
  | .ret => true
  | .exit _ => true
  | _ => false
/-- The slots that a piece writes. -/
def dstsC : Code → List Nat
  | .region _ ops _ => ops.toList.filterMap (·.dst)
  | .seq a b => dstsC a ++ dstsC b
  | .cond _ a b => dstsC a ++ dstsC b
  | .block _ b => dstsC b
  | .loop b => dstsC b
  | _ => []
theorem exec_soundD {n0 : Nat → Prop} {N : Nat} {w0 : World} {A0 : (Nat → Prop) × RP} {r : Option Nat} {n : Nat} {ds : List Deferred} {D : Nat → Prop} {a0 : Act} : ∀ (c : Code) (σ : St) (Q : Exit → St → Prop), plainC c = true → dstOk N c = true → (∀ d ∈ dstsC c, D d) → exec P c σ Q →
    ∀ (g : Gh) (a : Act) (w : World), Rel n0 N σ g a w → LtK n0 w → Bk n0 w0 w → (g.A0, g.R0) = A0 → Ag D a0 a → c.wpIn (FR r) n P (EndsD n0 N w0 A0 ds D a0 Q) { a with defers := ds } w
  | .skip, σ, Q, _, _, _, h, g, a, w, hr, hn, hb, hA, hg => wpIn_skip ⟨a, rfl, hg, σ, g, h, hr, hn, hb, hA⟩
  | .ret, σ, Q, _, _, _, h, g, a, w, hr, hn, hb, hA, hg => wpIn_ret ⟨a, rfl, hg, σ, g, h, hr, hn, hb, hA⟩
  | .exit id, σ, Q, _, _, _, h, g, a, w, hr, hn, hb, hA, hg => wpIn_exit ⟨a, rfl, hg, σ, g, h, hr, hn, hb, hA⟩
  | .seq x y, σ, Q, hp, hd, hD, h, g, a, w, hr, hn, hb, hA, hg => by
    simp only [dstOk, plainC, Bool.and_eq_true] at hd hp
    simp only [dstsC, List.mem_append] at hD
    refine wpIn_seq (wpIn_mono (exec_soundD x σ _ hp.1 hd.1 (fun d h => hD d (Or.inl h)) h g a w hr hn hb hA hg) fun e a' w' hq => ?_)
    obtain ⟨a1, rfl, hg1, σ', g', h1, h2, h3, h4, h5⟩ := hq
    cases e with
    | normal => exact exec_soundD y σ' Q hp.2 hd.2 (fun d h => hD d (Or.inr h)) h1 g' a1 w' h2 h3 h4 h5 hg1
    | exit i => exact ⟨a1, rfl, hg1, σ', g', h1, h2, h3, h4, h5⟩
    | goto l => exact ⟨a1, rfl, hg1, σ', g', h1, h2, h3, h4, h5⟩
    | ret => exact ⟨a1, rfl, hg1, σ', g', h1, h2, h3, h4, h5⟩
    | panic ch => exact ⟨a1, rfl, hg1, σ', g', h1, h2, h3, h4, h5⟩
    | outgrown => exact ⟨a1, rfl, hg1, σ', g', h1, h2, h3, h4, h5⟩
  | .cond c x y, σ, Q, hp, hd, hD, h, g, a, w, hr, hn, hb, hA, hg => by
    simp only [dstOk, plainC, Bool.and_eq_true] at hd hp
    simp only [dstsC, List.mem_append] at hD
    unfold exec at h
    have hv := hr.get P 0 c
    split at h
    · rename_i t hc
      rw [hc] at hv
      simp only [VR, CR, RepV] at hv
      exact wpIn_cond_split hv (fun ht => exec_soundD x σ Q hp.1 hd.1 (fun d h => hD d (Or.inl h)) (h.1 ht) g a w hr hn hb hA hg) (fun ht => exec_soundD y σ Q hp.2 hd.2 (fun d h => hD d (Or.inr h)) (h.2 ht) g a w hr hn hb hA hg)
    · exact h.elim
  | .block id b, σ, Q, hp, hd, hD, h, g, a, w, hr, hn, hb, hA, hg => by
    refine wpIn_block (wpIn_mono (exec_soundD b σ _ hp hd hD h g a w hr hn hb hA hg) fun e a' w' hq => ?_)
    obtain ⟨a1, rfl, hg1, σ', g', h1, h2, h3, h4, h5⟩ := hq
    cases e with
    | exit i =>
      simp only [Exit.inBlock]
      simp only at h1
      split at h1
      · rw [if_pos ‹_›]; exact ⟨a1, rfl, hg1, σ', g', h1, h2, h3, h4, h5⟩
      · rw [if_neg ‹_›]; exact ⟨a1, rfl, hg1, σ', g', h1, h2, h3, h4, h5⟩
    | normal => exact ⟨a1, rfl, hg1, σ', g', h1, h2, h3, h4, h5⟩
    | goto l => exact ⟨a1, rfl, hg1, σ', g', h1, h2, h3, h4, h5⟩
    | ret => exact ⟨a1, rfl, hg1, σ', g', h1, h2, h3, h4, h5⟩
    | panic ch => exact ⟨a1, rfl, hg1, σ', g', h1, h2, h3, h4, h5⟩
    | outgrown => exact ⟨a1, rfl, hg1, σ', g', h1, h2, h3, h4, h5⟩
  | .region id ops false, σ, Q, hp, hd, hD, h, g, a, w, hr, hn, hb, hA, hg => by
    refine wpIn_region ?_
    have hd' : ∀ o ∈ ops.toList, Oper.nodef o = true ∧ ∀ d, o.dst = some d → d < N ∧ D d := fun o ho => by
      simp only [dstOk, plainC, Array.all_eq_true_iff_forall_mem] at hd hp
      refine ⟨hp o (by simpa using ho), fun d hdd => ⟨?_, hD d (by simp only [dstsC, List.mem_filterMap]; exact ⟨o, ho, hdd⟩)⟩⟩
      have := hd o (by simpa using ho)
      rw [hdd] at this
      simpa using this
    rw [List.range_eq_range']
    exact ops_soundD (fun a w σ g h1 h2 h3 h4 h5 h6 => ⟨a, rfl, h6, σ, g, h1, h2, h3, h4, h5⟩) ops.size 0 (by omega) hd' σ g a w (by simpa [exec] using h) hr hn hb hA hg
  | .loop _, _, _, hp, _, _, _, _, _, _, _, _, _, _, _ => by cases hp
  | .region _ _ true, _, _, hp, _, _, _, _, _, _, _, _, _, _, _ => by cases hp
  | .rangeFunc .., _, _, hp, _, _, _, _, _, _, _, _, _, _, _ => by cases hp
  | .scope _, _, _, hp, _, _, _, _, _, _, _, _, _, _, _ => by cases hp
  | .label _, _, _, hp, _, _, _, _, _, _, _, _, _, _, _ => by cases hp
  | .goto _, _, _, hp, _, _, _, _, _, _, _, _, _, _, _ => by cases hp
  | .refuse _, _, _, hp, _, _, _, _, _, _, _, _, _, _, _ => by cases hp
end Go.Proofs.Ytgfjbbbkploonaa
/-
  The walk over plain data: a range over a function that hands out a slice's elements from behind.
  Conditions: none.
-/
namespace Go.Proofs.Ytgfjbbbkploonaa
set_option linter.unusedSimpArgs false
set_option linter.unusedVariables false
set_option maxRecDepth 4000
open Go.RowKit
variable {P : Program}
/-- The world turns in blocks that the state does not speak of; what is kept and what may be read is named anew. -/
theorem Rel.turn {n0 n1 A1 : Nat → Prop} {N : Nat} {σ : St} {g : Gh} {a : Act} {w w' : World} (h : Rel n0 N σ g a w) (hF : ∀ b, Fix σ g w b → A1 b ∧ w'.heap[b]? = w.heap[b]?) (hz : w.heap.size ≤ w'.heap.size)
    (hn : ∀ b, ¬ n1 b → A1 b ∧ g.R0 b) (hb : ∀ k, σ.bx k ≠ none → ¬ n1 (g.β k) ∧ w'.heap[g.β k]? = w.heap[g.β k]?) (he : ∀ e, σ.On e → ∀ b ∈ g.φ e, ¬ n1 b ∧ A1 b ∧ w'.heap[b]? = w.heap[b]?) : Rel n1 N σ { g with A0 := A1 } a w' := by
  have m : Mv σ σ g { g with A0 := A1 } w w' := ⟨fun b hf => (hF b hf).2, fun b hf => ⟨hf.1, hf.2.1, Nat.lt_of_lt_of_le hf.2.2.1 hz, (hF b hf).1⟩, fun b hbb => ⟨rfl, hbb⟩, fun e n hh => ⟨hh, rfl⟩, rfl⟩
  refine ⟨h.defers, h.size, hn, fun i => m.vr (h.slots i), fun b cs hbb => ?_, fun b hbb => (hb b hbb).1, h.inj, fun e x hx ho => m.evr (h.evs e x hx ho) fun b hm => (he e ⟨x, hx, ho⟩ b hm).2.2, fun e x hx ho => ⟨m.rep (h.offs e x hx ho).1, (h.offs e x hx ho).2⟩, h.slc, fun e ho b hm => ⟨(he e ho b hm).2.1, (h.ebase e ho b hm).2⟩, fun e ho b hm => (he e ho b hm).1, h.nodup, h.apart, h.ebx⟩
  obtain ⟨vs, ty, k1, k2⟩ := h.boxes b cs hbb
  exact ⟨vs, ty, by rw [(hb b (by rw [hbb]; simp)).2]; exact k1, m.crs k2⟩
theorem Rel.elt {n0 : Nat → Prop} {N : Nat} {σ : St} {g : Gh} {a : Act} {w : World} (h : Rel n0 N σ g a w) {e : Nat} (ho : σ.On e) {b : Nat} (hm : b ∈ g.φ e) : b < w.heap.size := by
  obtain ⟨x, hx, hon⟩ := ho
  exact (h.evs e x hx hon).lt b hm
/-- Two new blocks that the state never speaks of. -/
theorem Rel.enter {n0 : Nat → Prop} {N : Nat} {σ : St} {g : Gh} {a : Act} {w : World} (h : Rel n0 N σ g a w) (o1 o2 : Obj) :
    Rel (fun b => n0 b ∨ b = w.heap.size ∨ b = w.heap.size + 1) N σ { g with A0 := fun b => g.A0 b ∧ b ≠ w.heap.size ∧ b ≠ w.heap.size + 1 } a ((w.alloc o1).alloc o2) := by
  have hs : ∀ b, b < w.heap.size → ((w.alloc o1).alloc o2).heap[b]? = w.heap[b]? := fun b hb => by rw [Below.heap_alloc _ _ _ (by simp; omega), Below.heap_alloc _ _ _ hb]
  refine h.turn (fun b hf => ⟨⟨hf.2.2.2, ?_, ?_⟩, hs b hf.2.2.1⟩) (by simp; omega) (fun b hb => ?_) (fun k hk => ⟨?_, hs _ (h.lt hk)⟩) (fun e ho b hm => ?_)
  · have := hf.2.2.1; omega
  · have := hf.2.2.1; omega
  · have h1 : ¬ n0 b := fun k => hb (Or.inl k)
    exact ⟨⟨(h.anew b h1).1, fun e => hb (Or.inr (Or.inl e)), fun e => hb (Or.inr (Or.inr e))⟩, (h.anew b h1).2⟩
  · have := h.lt hk
    rintro (k1 | k1 | k1)
    · exact h.base k hk k1
    · omega
    · omega
  · have := h.elt ho hm
    refine ⟨?_, ⟨(h.ebase e ho b hm).1, by omega, by omega⟩, hs b this⟩
    rintro (k1 | k1 | k1)
    · exact h.etop e ho b hm k1
    · omega
    · omega
/-- One of those blocks turns. -/
theorem Rel.putObj {n1 : Nat → Prop} {N : Nat} {σ : St} {g : Gh} {a : Act} {w : World} (h : Rel n1 N σ g a w) {l : Nat} (hl : n1 l) (hA : ¬ g.A0 l) (o : Obj) : Rel n1 N σ g a (w.putObj l o) := by
  have := h.turn (n1 := n1) (A1 := g.A0) (w' := w.putObj l o) (fun b hf => ⟨hf.2.2.2, World.putObj_heap_other (fun e => hA (e ▸ hf.2.2.2))⟩) (by simp) h.anew
    (fun k hk => ⟨h.base k hk, World.putObj_heap_other (fun e => h.base k hk (e ▸ hl))⟩) (fun e ho b hm => ⟨h.etop e ho b hm, (h.ebase e ho b hm).1, World.putObj_heap_other (fun e' => h.etop e ho b hm (e' ▸ hl))⟩)
  exact this
/-- Back to what was kept before. -/
theorem Rel.leave {n0 n1 A1 : Nat → Prop} {N : Nat} {σ : St} {g : Gh} {a : Act} {w : World} (h : Rel n1 N σ g a w) (hn : ∀ b, n0 b → n1 b) (hA : ∀ b, g.A0 b → A1 b) (hnew : ∀ b, ¬ n0 b → A1 b ∧ g.R0 b) : Rel n0 N σ { g with A0 := A1 } a w :=
  h.turn (fun b hf => ⟨hA b hf.2.2.2, rfl⟩) (Nat.le_refl _) hnew (fun k hk => ⟨fun k1 => h.base k hk (hn _ k1), rfl⟩) (fun e ho b hm => ⟨fun k1 => h.etop e ho b hm (hn _ k1), hA b (h.ebase e ho b hm).1, rfl⟩)
/-- The slots of an earlier frame. -/
theorem Rel.frame {n0 : Nat → Prop} {N : Nat} {σ : St} {g : Gh} {a a0 : Act} {w : World} (h : Rel n0 N σ g a w) {D : Nat → Prop} (hg : Ag D a0 a) (hd : a0.defers = []) (hz : a0.tmps.size = N) (hany : ∀ i, D i → σ.sl i = .one .any) : Rel n0 N σ g a0 w := by
  refine h.slots_of rfl rfl hd hz fun i => ?_
  by_cases hi : D i
  · rw [hany i hi]; trivial
  · have h1 := hg i hi
    have h2 := h.slots i
    have e : a0.tmps.getD i (g.R0.ξ i) = a.tmps.getD i (g.R0.ξ i) := by
      rw [Array.getD_eq_getD_getElem?, Array.getD_eq_getD_getElem?] at h1 ⊢
      by_cases hlt : i < N
      · have s1 : i < a.tmps.size := by rw [h.size]; exact hlt
        have s2 : i < a0.tmps.size := by rw [hz]; exact hlt
        simp only [Array.getElem?_eq_getElem s1, Array.getElem?_eq_getElem s2, Option.getD_some] at h1 ⊢
        exact h1.symm
      · have s1 : ¬ i < a.tmps.size := by rw [h.size]; exact hlt
        have s2 : ¬ i < a0.tmps.size := by rw [hz]; exact hlt
        simp [s1, s2]
    rw [e]; exact h2

/-- An element's value. -/
def agv (ag : Bool) (r : List Value) : Value := if ag = true then .agg ⟨r⟩ else r.headD undef
/-- The function that hands out a slice's elements from behind: it reads the slice anew for each. -/
def BackFn (P : Program) (f : FuncId) (ag : Bool) (sz : Nat) : Prop := ∀ (l Bs n : Nat) (W : World) (J : Nat → World → Prop), n ≤ maxI →
  (∀ W, J 0 W → ∃ ao cap, W.cell? ⟨Bs, 0, none⟩ = some (.slice ao n cap)) →
  (∀ k W, J k W → k < n → ∃ b o cap r, W.cell? ⟨Bs, 0, none⟩ = some (.slice (some ⟨b, o, none⟩) n cap) ∧ r.length = sz ∧ (∀ j v, r[j]? = some v → W.cell? ⟨b, o + (n - 1 - k) * sz + j, none⟩ = some v) ∧
    YieldAt (FR none) 5 P l #[.int .i64 ((n - 1 - k : Nat) : Int), agv ag r] W fun e W' => e = .returned (.bool true) ∧ J (k + 1) W') →
  J 0 W → CallsIn (FR none) 6 P f #[.func (.yield l) #[] #[], .pointer (some ⟨Bs, 0, none⟩)] W fun e W' => (∃ v, e = .returned v) ∧ J n W'
theorem RepAt.valsN {w : World} {A : Nat → Prop} {b : Nat} : ∀ {cs : List T} {o : Nat}, RepAt w A b o cs → ∃ vs, RepAll w A cs vs ∧ ∀ j v, vs[j]? = some v → w.cell? ⟨b, o + j, none⟩ = some v
  | [], _, _ => ⟨[], by unfold RepAll; rfl, fun j v h => by simp at h⟩
  | c :: cs, o, h => by
    unfold RepAt at h
    obtain ⟨⟨v, h1, h2⟩, h3⟩ := h
    obtain ⟨vs, k1, k2⟩ := RepAt.valsN h3
    refine ⟨v :: vs, by unfold RepAll; exact ⟨v, vs, rfl, h2, k1⟩, fun j u hj => ?_⟩
    cases j with
    | zero => simp only [List.getElem?_cons_zero, Option.some.injEq] at hj; subst hj; exact h1
    | succ j =>
      have := k2 j u (by simpa using hj)
      rwa [show o + (j + 1) = o + 1 + j by omega]
/-- An element, as the loop's variable holds it. -/
def rowN (ag : Bool) (r : List T) : V := if ag = true then .agg (r.map T.toN) else .one (r.headD (.bool false)).toN
theorem rowN_vr {σ : St} {g : Gh} {w : World} {ag : Bool} {r : List T} {vs : List Value} (hag : ag = true ∨ r.length = 1) (h : RepAll w (fun b => Fix σ g w b ∧ ¬ g.R0 b) r vs) : VR σ g w (rowN ag r) (agv ag vs) := by
  cases ag with
  | true => exact ⟨vs, rfl, toN_crs (fun _ h => h) h⟩
  | false =>
    have hl := hag.resolve_left (by simp)
    match r, hl, h with
    | [c], _, h =>
      unfold RepAll at h
      obtain ⟨v, vs', rfl, h1, h2⟩ := h
      exact toN_cr (fun _ h => h) h1
theorem Bk.mono {n0 n1 : Nat → Prop} {w w' : World} (h : Bk n1 w w') (hn : ∀ b, n0 b → n1 b) : Bk n0 w w' := ⟨h.os, h.tape, h.output, h.size, fun k hk => h.block k (hn k hk)⟩
theorem Bk.putObj {n0 : Nat → Prop} (w : World) {l : Nat} (hl : ¬ n0 l) (o : Obj) : Bk n0 w (w.putObj l o) := ⟨rfl, rfl, rfl, by simp, fun k hk => World.putObj_heap_other (fun e => hl (e ▸ hk))⟩
theorem boxRead {n0 : Nat → Prop} {N : Nat} {σ : St} {g : Gh} {a : Act} {w : World} (h : Rel n0 N σ g a w) {id sz : Nat} {rows : List (List T)} (hb : σ.bx id = some [.rn (.sl sz rows)]) :
    ∃ ao cap, w.cell? ⟨g.β id, 0, none⟩ = some (.slice ao rows.length cap) ∧ rows.length ≤ maxI ∧ (rows = [] ∨ ∃ b o, ao = some ⟨b, o, none⟩ ∧ RepRows w (fun b => Fix σ g w b ∧ ¬ g.R0 b) b o sz rows) := by
  obtain ⟨⟨vl⟩, ty, k1, v, vs', rfl, k2, k3⟩ := h.boxes id _ hb
  obtain rfl : vs' = [] := k3
  simp only [CR] at k2
  unfold RepV at k2
  obtain ⟨ao, cap, rfl, h2, h3, h4⟩ := k2
  refine ⟨ao, cap, by simp [World.cell?, k1], by omega, h4.imp (fun h => h) ?_⟩
  rintro ⟨b, o, e1, _, e2⟩
  exact ⟨b, o, e1, e2⟩
theorem wp_rangeBack {F1 : FuncId} {ag : Bool} {sz t p1 p2 id N m : Nat} {asg bd : Code} (hB : BackFn P F1 ag sz) (hc : Callable P F1) (hpa : plainC asg = true) (hpb : plainC bd = true) (hda : dstOk N asg = true) (hdb : dstOk N bd = true) (hp1 : p1 < N) (hp2 : p2 < N) (ht : t < 1000000)
    (H : Nat → St) (rows : List (List T)) (hag : ag = true ∨ sz = 1) (hslot : ∀ k, (H k).sl t = .one (.fn F1 [id]) ∧ (H k).bx id = some [.rn (.sl sz rows)]) (hany : ∀ k, ∀ i ∈ p1 :: p2 :: (dstsC asg ++ dstsC bd), (H k).sl i = .one .any)
    (hround : ∀ k, k < rows.length → exec P asg (((H k).put (some p1) (.one (.t (.int .i64 ((rows.length - 1 - k : Nat) : Int))))).put (some p2) (rowN ag (rows.getD (rows.length - 1 - k) []))) fun e σ2 => e = .normal ∧ exec P bd σ2 fun e σ3 => e = .normal ∧ Wk σ3 (H (k + 1)))
    {n0 : Nat → Prop} {g : Gh} {a : Act} {w0 w : World} (hR : Rel n0 N (H 0) g a w) (hn : LtK n0 w) (hb : Bk n0 w0 w) {Q : Exit → Act → World → Prop}
    (hQ : ∀ g' w', Rel (fun b => n0 b ∨ b = w.heap.size ∨ b = w.heap.size + 1) N (H rows.length) g' a w' → LtK (fun b => n0 b ∨ b = w.heap.size ∨ b = w.heap.size + 1) w' → Bk n0 w0 w' → w'.heap[w.heap.size]? = some (.deferred (some [])) →
      (g'.A0, g'.R0) = ((fun b => g.A0 b ∧ b ≠ w.heap.size ∧ b ≠ w.heap.size + 1), g.R0) → Q .normal { a with defers := [{ target := .collected w.heap.size, args := #[] }] } w') :
    (Code.rangeFunc (.tmp t) #[p1, p2] asg bd).wpIn (FR none) m P Q a w := by
  obtain ⟨n1, hn1⟩ : ∃ n1 : Nat → Prop, n1 = fun b => n0 b ∨ b = w.heap.size ∨ b = w.heap.size + 1 := ⟨_, rfl⟩
  obtain ⟨A1, hA1⟩ : ∃ A1 : (Nat → Prop) × RP, A1 = ((fun b => g.A0 b ∧ b ≠ w.heap.size ∧ b ≠ w.heap.size + 1), g.R0) := ⟨_, rfl⟩
  rw [← hn1, ← hA1] at hQ
  have hD1 : n1 w.heap.size := by rw [hn1]; exact Or.inr (Or.inl rfl)
  have hl1 : n1 (w.heap.size + 1) := by rw [hn1]; exact Or.inr (Or.inr rfl)
  have hsub : ∀ b, n0 b → n1 b := fun b h => by rw [hn1]; exact Or.inl h
  have hl0 : ¬ n0 (w.heap.size + 1) := hn.new (by omega)
  have hAl : ∀ g' : Gh, (g'.A0, g'.R0) = A1 → ¬ g'.A0 (w.heap.size + 1) := fun g' h k => by rw [hA1] at h; rw [(Prod.mk.inj h).1] at k; exact k.2.2 rfl
  have hv0 : a.tmps.getD t undef = .func (.func F1) #[] ⟨[.pointer (some ⟨g.β id, 0, none⟩)]⟩ := by
    have := hR.slot_at ht
    rw [(hslot 0).1] at this
    exact this.1
  have hβ : ∀ {k g' W}, Rel n1 N (H k) g' a W → g'.β id = g.β id := fun {k g' W} h => by
    have h1 := h.slot_at ht
    rw [(hslot k).1] at h1
    have h2 := h1.1
    rw [hv0] at h2
    simp only [List.map_cons, List.map_nil, Value.func.injEq, Array.mk.injEq, List.cons.injEq, Value.pointer.injEq, Option.some.injEq, Addr.mk.injEq, and_true, true_and] at h2
    exact h2.symm
  refine wpIn_rangeFunc ?_
  intro fn hfn
  obtain ⟨rec, hrec⟩ : ∃ rec : LoopState → Loop, rec = fun st => { state := st, pending := none, fn, tmps := a.tmps, params := #[p1, p2], assign := asg, body := bd, defers := w.heap.size } := ⟨_, rfl⟩
  obtain ⟨W1, hW1⟩ : ∃ W1, (w.alloc (.deferred (some []))).alloc (.loop (rec .ready)) = W1 := ⟨_, rfl⟩
  have hL1 : W1.heap[w.heap.size + 1]? = some (.loop (rec .ready)) := by
    rw [← hW1]; have := World.alloc_heap_new (w.alloc (.deferred (some []))) (.loop (rec .ready)); rwa [World.size_alloc] at this
  have hK1 : W1.heap[w.heap.size]? = some (.deferred (some [])) := by
    rw [← hW1]; exact (Below.heap_alloc _ _ _ (by simp)).trans (World.alloc_heap_new w _)
  have hR1 : Rel n1 N (H 0) { g with A0 := fun b => g.A0 b ∧ b ≠ w.heap.size ∧ b ≠ w.heap.size + 1 } a W1 := by rw [← hW1, hn1]; exact hR.enter _ _
  have hb1 : Bk n0 w0 W1 := by rw [← hW1]; exact (hb.trans (Bk.of_alloc hn _)).trans (Bk.of_alloc (hn.mono (by simp)) _)
  have hz1 : LtK n1 W1 := by
    rw [← hW1, hn1]
    rintro k (h | rfl | rfl)
    · have := hn k h; simp; omega
    · simp; omega
    · simp
  have hg : a.eval (.tmp t) = .func (.func F1) #[] #[.pointer (some ⟨g.β id, 0, none⟩)] := hv0
  refine ⟨w.heap.size + 1, [{ target := .collected w.heap.size, args := #[] }], W1, { target := .fn (.func F1) #[.pointer (some ⟨g.β id, 0, none⟩)], args := #[.func (.yield (w.heap.size + 1)) #[] #[]] }, W1, F1,
    #[.func (.yield (w.heap.size + 1)) #[] #[]] ++ #[.pointer (some ⟨g.β id, 0, none⟩)], W1, ?_, ?_, fun _ _ => trivial, ?_, (fun h => by cases h), ?_⟩
  · rw [← hW1, hrec]; exact run_enterLoop_outer _ _ _ _ _
  · simp only [resolve, hg]
    simp [go_sem]
  · have hc' : ∀ (args : Array Value) (w : World), (callFunc F1 args).run P w = .ok (.enter F1 args) w := hc
    simp [invoke, go_sem, hc']
  · have hgA : ∀ {g' : Gh}, (g'.A0, g'.R0) = A1 → g'.R0 = g.R0 := fun {g'} h => by rw [hA1] at h; exact (Prod.mk.inj h).2
    obtain ⟨J, hJ⟩ : ∃ J : Nat → World → Prop, J = fun k W => (∃ gk, Rel n1 N (H k) gk a W ∧ (gk.A0, gk.R0) = A1) ∧ LtK n1 W ∧ Bk n0 w0 W ∧ W.heap[w.heap.size + 1]? = some (.loop (rec .ready)) ∧ W.heap[w.heap.size]? = some (.deferred (some [])) := ⟨_, rfl⟩
    have hmax : rows.length ≤ maxI := by obtain ⟨_, _, _, h, _⟩ := boxRead hR1 (hslot 0).2; exact h
    refine CallsIn.mono (callsIn_FR.2 (callsIn_FR.1 (hB (w.heap.size + 1) (g.β id) rows.length W1 J hmax ?_ ?_ ?_))) ?_
    · rintro W h
      rw [hJ] at h
      obtain ⟨⟨gk, k1, k2⟩, _⟩ := h
      obtain ⟨ao, cap, h1, _⟩ := boxRead k1 (hslot 0).2
      rw [hβ k1] at h1
      exact ⟨ao, cap, h1⟩
    · rintro k W h hk
      rw [hJ] at h
      obtain ⟨⟨gk, k1, k2⟩, k3, k4, k5, k6⟩ := h
      obtain ⟨ao, cap, h1, _, h2⟩ := boxRead k1 (hslot k).2
      rw [hβ k1] at h1
      obtain ⟨b, o, rfl, h3⟩ := h2.resolve_left (fun e => by rw [e] at hk; simp at hk)
      have hi : rows.length - 1 - k < rows.length := by omega
      obtain ⟨h4, h5⟩ := h3.at (rows.length - 1 - k) rows[rows.length - 1 - k] (by simp [hi])
      obtain ⟨vs, h6, h7⟩ := h5.valsN
      refine ⟨b, o, cap, vs, h1, by rw [h6.len]; exact h4, h7, ?_⟩
      have hy := run_yield (P := P) (args := #[.int .i64 ((rows.length - 1 - k : Nat) : Int), agv ag vs]) k5 (by rw [hrec]; rfl)
      rw [hrec] at hy
      refine ⟨fn, _, asg, bd, hy, roundIn_of_wpIn hfn ?_⟩
      clear hy
      have hda' : a.defers = [] := k1.defers
      have hex := hround k hk
      rw [show rows.getD (rows.length - 1 - k) [] = rows[rows.length - 1 - k] by simp [hi]] at hex
      have q1 : Rel n1 N (((H k).put (some p1) (.one (.t (.int .i64 ((rows.length - 1 - k : Nat) : Int))))).put (some p2) (rowN ag rows[rows.length - 1 - k])) gk ((a.put (some p1) (.int .i64 ((rows.length - 1 - k : Nat) : Int))).put (some p2) (agv ag vs)) W := by
        refine (k1.put (some p1) (v := .int .i64 ((rows.length - 1 - k : Nat) : Int)) ?_ (fun i e => by cases e; exact hp1)).put (some p2) ?_ (fun i e => by cases e; exact hp2)
        · show RepV _ _ _ _
          unfold RepV
          have m1 : IntKind.min .i64 = -9223372036854775808 := by decide
          have m2 : IntKind.max .i64 = 9223372036854775807 := by decide
          unfold maxI at hmax
          exact ⟨rfl, by omega, by omega⟩
        · exact (Mv.of_eq gk W rfl rfl).vr (rowN_vr (hag.imp (fun h => h) fun h => by rw [h4, h]) h6)
      have q2 : Ag (fun i => i ∈ p1 :: p2 :: (dstsC asg ++ dstsC bd)) a ((a.put (some p1) (.int .i64 ((rows.length - 1 - k : Nat) : Int))).put (some p2) (agv ag vs)) :=
        ((Ag.refl _ a).put (fun i e => by cases e; simp) _).put (fun i e => by cases e; simp) _
      have ef : (#[p1, p2].zip #[.int .i64 ((rows.length - 1 - k : Nat) : Int), agv ag vs]).foldl (fun (tmps : Array Value) (x : Nat × Value) => match x with | (t, v) => tmps.setIfInBounds t v) a.tmps = ((a.put (some p1) (.int .i64 ((rows.length - 1 - k : Nat) : Int))).put (some p2) (agv ag vs)).tmps := by simp [Act.put]
      show asg.wpIn (FR (some (w.heap.size + 1))) 5 P _ { tmps := (#[p1, p2].zip #[.int .i64 ((rows.length - 1 - k : Nat) : Int), agv ag vs]).foldl (fun (tmps : Array Value) (x : Nat × Value) => match x with | (t, v) => tmps.setIfInBounds t v) a.tmps, defers := [] } W
      rw [ef]
      refine wpIn_mono (exec_soundD (r := some (w.heap.size + 1)) (n := 5) (ds := []) (D := fun i => i ∈ p1 :: p2 :: (dstsC asg ++ dstsC bd)) (a0 := a) asg _ _ hpa hda (fun d hd => by simp [hd]) hex gk _ W q1 k3 (Bk.refl n1 W) k2 q2) ?_
      rintro e a2 W2 ⟨a1, rfl, q3, σ2, g2, ⟨rfl, hex2⟩, q4, q5, q6, q7⟩
      have r1 : W2.heap[w.heap.size + 1]? = some (.loop (rec .ready)) := (q6.block _ hl1).trans k5
      refine ⟨_, run_beginRound r1 (by rw [hrec]), ?_⟩
      have q4' := q4.putObj hl1 (hAl g2 q7) (.loop { rec .ready with state := .busy })
      have q5' : LtK n1 (W2.putObj (w.heap.size + 1) (.loop { rec .ready with state := .busy })) := fun b hb => by have := q5 b hb; simpa using this
      refine wpIn_mono (exec_soundD (r := some (w.heap.size + 1)) (n := 5) (ds := []) (D := fun i => i ∈ p1 :: p2 :: (dstsC asg ++ dstsC bd)) (a0 := a) bd _ _ hpb hdb (fun d hd => by simp [hd]) hex2 g2 _ _ q4' q5' (Bk.refl n1 _) q7 q3) ?_
      rintro e a3 W3 ⟨a4, rfl, s3, σ3, g3, ⟨rfl, hwk⟩, s4, s5, s6, s7⟩
      have r2 : W3.heap[w.heap.size + 1]? = some (.loop { rec .ready with state := .busy }) := (s6.block _ hl1).trans (World.putObj_heap_same (Array.getElem?_eq_some_iff.1 r1).1)
      have r3 := run_endRound (P := P) none r2
      obtain ⟨g4, t1, t2, t3⟩ := hwk _ _ _ _ _ s4
      have hA4 : (g4.A0, g4.R0) = A1 := by rw [t2, t3]; exact s7
      have t4 : Rel n1 N (H (k + 1)) g4 a W3 := t1.frame s3 hda' k1.size (hany (k + 1))
      refine ⟨_, _, r3, rfl, ?_⟩
      rw [hJ]
      refine ⟨⟨g4, t4.putObj hl1 (hAl g4 hA4) _, hA4⟩, fun b hb => by have := s5 b hb; simpa using this, ?_, by rw [World.putObj_heap_same (Array.getElem?_eq_some_iff.1 r2).1, hrec]; rfl, ?_⟩
      · exact (((k4.trans (q6.mono hsub)).trans (Bk.putObj _ hl0 _)).trans (s6.mono hsub)).trans (Bk.putObj _ hl0 _)
      · rw [World.putObj_heap_other (by omega), s6.block _ hD1, World.putObj_heap_other (by omega), q6.block _ hD1]; exact k6
    · rw [hJ]
      exact ⟨⟨_, hR1, hA1.symm⟩, hz1, hb1, hL1, hK1⟩
    · rintro e W2 ⟨⟨v, rfl⟩, h⟩
      rw [hJ] at h
      obtain ⟨⟨gk, k1, k2⟩, k3, k4, k5, k6⟩ := h
      refine ⟨none, _, by have := run_endLoop (P := P) k5 (by rw [hrec]; simp); rw [hrec] at this; exact this, ?_⟩
      have hda' : a.defers = [] := k1.defers
      show Q .normal { a with defers := [{ target := .collected w.heap.size, args := #[] }] ++ a.defers } _
      rw [hda', List.append_nil]
      exact hQ gk _ (k1.putObj hl1 (hAl gk k2) _) (fun b hb => by have := k3 b hb; simpa using this) (k4.trans (Bk.putObj _ hl0 _)) ((World.putObj_heap_other (by omega)).trans k6) k2
end Go.Proofs.Ytgfjbbbkploonaa
/-
  The walk over plain data: the head for a function with a range over slices.Backward.
  Conditions: none.
-/
namespace Go.Proofs.Ytgfjbbbkploonaa
set_option linter.unusedSimpArgs false
set_option linter.unusedVariables false
set_option maxRecDepth 4000
open Go.RowKit
variable {P : Program}
/-- The pieces ahead of a range over a function, the loop, and what comes behind. -/
def splitRF : Code → Option (Code × (Operand × Array Tmp × Code × Code) × Code)
  | .rangeFunc g ps asg bd => some (.skip, (g, ps, asg, bd), .skip)
  | .block _ b => match b with
    | .rangeFunc g ps asg bd => some (.skip, (g, ps, asg, bd), .skip)
    | _ => none
  | .seq x y => match splitRF x with
    | some (p, r, q) => some (p, r, .seq q y)
    | none => match splitRF y with
      | some (p, r, q) => some (.seq x p, r, q)
      | none => none
  | _ => none
/-- What a walk shows where it comes to such a loop. -/
def LoopB (P : Program) (N : Nat) (g : Operand) (ps : Array Tmp) (asg bd q : Code) (Q : Exit → St → Prop) (σ : St) : Prop :=
  ∃ (F1 : FuncId) (ag : Bool) (sz t p1 p2 id : Nat) (H : Nat → St) (rows : List (List T)), g = .tmp t ∧ ps = #[p1, p2] ∧ BackFn P F1 ag sz ∧ Callable P F1 ∧ (p1 < N ∧ p2 < N ∧ t < 1000000) ∧ (ag = true ∨ sz = 1) ∧
    (∀ k, (H k).sl t = .one (.fn F1 [id]) ∧ (H k).bx id = some [.rn (.sl sz rows)]) ∧ (∀ k, ∀ i ∈ p1 :: p2 :: (dstsC asg ++ dstsC bd), (H k).sl i = .one .any) ∧
    (∀ k, k < rows.length → exec P asg (((H k).put (some p1) (.one (.t (.int .i64 ((rows.length - 1 - k : Nat) : Int))))).put (some p2) (rowN ag (rows.getD (rows.length - 1 - k) []))) fun e σ2 => e = .normal ∧ exec P bd σ2 fun e σ3 => e = .normal ∧ Wk σ3 (H (k + 1))) ∧
    Wk σ (H 0) ∧ exec P q (H rows.length) Q
/-- What holds at the end of a piece behind such a loop. -/
def EndsM (n0 : Nat → Prop) (N : Nat) (w0 : World) (A0 : (Nat → Prop) × RP) (Q : Exit → St → Prop) (e : Exit) (a : Act) (w : World) : Prop :=
  ∃ (D : Nat) (n1 : Nat → Prop) (a1 : Act) (σ : St) (g : Gh), a = { a1 with defers := [{ target := .collected D, args := #[] }] } ∧ Q e σ ∧ Rel n1 N σ g a1 w ∧ LtK n1 w ∧ Bk n0 w0 w ∧ w.heap[D]? = some (.deferred (some [])) ∧ n1 D ∧ ¬ n0 D ∧ (∀ b, n0 b → n1 b) ∧ ¬ g.A0 D ∧ (∀ b, g.A0 b → A0.1 b) ∧ g.R0 = A0.2
theorem endsM_step {n0 : Nat → Prop} {N n : Nat} {w0 : World} {A0 : (Nat → Prop) × RP} {Q : Exit → St → Prop} {y : Code} (hp : plainC y = true) (hd : dstOk N y = true) {a : Act} {w : World} (h : EndsM n0 N w0 A0 (fun _ σ => exec P y σ Q) .normal a w) :
    y.wpIn (FR none) n P (EndsM n0 N w0 A0 Q) a w := by
  obtain ⟨D, n1, a1, σ, g, rfl, h1, h2, h3, h4, h5, h6, h7, h8, h9, h10, h11⟩ := h
  refine wpIn_mono (exec_soundD (r := none) (n := n) (ds := [{ target := .collected D, args := #[] }]) (D := fun _ => True) (a0 := a1) (A0 := (g.A0, g.R0)) y σ Q hp hd (fun _ _ => trivial) h1 g a1 w h2 h3 (Bk.refl n1 w) rfl (Ag.refl _ _)) ?_
  rintro e a' w' ⟨a2, rfl, _, σ', g', k1, k2, k3, k4, k5⟩
  have e1 : g'.A0 = g.A0 := (Prod.mk.inj k5).1
  have e2 : g'.R0 = g.R0 := (Prod.mk.inj k5).2
  exact ⟨D, n1, a2, σ', g', rfl, k1, k2, k3, h4.trans (k4.mono h8), (k4.block D h6).trans h5, h6, h7, h8, by rw [e1]; exact h9, by rw [e1]; exact h10, by rw [e2]; exact h11⟩
theorem split_sound {N n : Nat} {n0 : Nat → Prop} {w0 : World} {A0 : (Nat → Prop) × RP} : ∀ {c p q : Code} {g : Operand} {ps : Array Tmp} {asg bd : Code} {Q1 Q2 : Exit → St → Prop} {Q : Exit → Act → World → Prop}, splitRF c = some (p, (g, ps, asg, bd), q) →
    dstOk N p = true → dstOk N q = true → plainC q = true → (plainC asg = true ∧ plainC bd = true ∧ dstOk N asg = true ∧ dstOk N bd = true) → (∀ σ, Q1 .normal σ → LoopB P N g ps asg bd q Q2 σ) →
    (∀ e a w, e ≠ .normal → Ends n0 N w0 A0 Q1 e a w → Q e a w) → (∀ e a w, EndsM n0 N w0 A0 Q2 e a w → Q e a w) →
    ∀ {σ : St} {gh : Gh} {a : Act} {w : World}, exec P p σ Q1 → Rel n0 N σ gh a w → LtK n0 w → Bk n0 w0 w → (gh.A0, gh.R0) = A0 → c.wpIn (FR none) n P Q a w := by
  intro c
  have loop : ∀ {g : Operand} {ps : Array Tmp} {asg bd : Code} {Q1 Q2 : Exit → St → Prop} {Q : Exit → Act → World → Prop}, (plainC asg = true ∧ plainC bd = true ∧ dstOk N asg = true ∧ dstOk N bd = true) → (∀ σ, Q1 .normal σ → LoopB P N g ps asg bd .skip Q2 σ) →
      (∀ a w, EndsM n0 N w0 A0 Q2 .normal a w → Q .normal a w) → ∀ {σ : St} {gh : Gh} {a : Act} {w : World}, exec P .skip σ Q1 → Rel n0 N σ gh a w → LtK n0 w → Bk n0 w0 w → (gh.A0, gh.R0) = A0 → (Code.rangeFunc g ps asg bd).wpIn (FR none) n P Q a w := by
    intro g ps asg bd Q1 Q2 Q ha hL hq σ gh a w hex hR hn hb hA
    obtain ⟨F1, ag, sz, t, p1, p2, id, H, rows, rfl, rfl, h1, h2, h3, h4, h5, h6, h7, h8, h9⟩ := hL σ hex
    obtain ⟨g1, k1, k2, k3⟩ := h8 _ _ _ _ _ hR
    refine wp_rangeBack h1 h2 ha.1 ha.2.1 ha.2.2.1 ha.2.2.2 h3.1 h3.2.1 h3.2.2 H rows h4 h5 h6 h7 k1 hn hb fun g' w' q1 q2 q3 q4 q5 => hq _ _ ?_
    refine ⟨w.heap.size, _, a, H rows.length, g', rfl, h9, q1, q2, q3, q4, Or.inr (Or.inl rfl), hn.new (Nat.le_refl _), fun b hb => Or.inl hb, ?_, ?_, ?_⟩
    · rw [(Prod.mk.inj q5).1]; exact fun h => h.2.1 rfl
    · rw [(Prod.mk.inj q5).1, ← hA]; intro b hb; rw [k2] at hb; exact hb.1
    · rw [(Prod.mk.inj q5).2, ← hA]; exact k3
  induction c with
  | rangeFunc g ps asg bd _ _ =>
    intro p q g' ps' asg' bd' Q1 Q2 Q h hdp hdq hpq ha hL hx hq σ gh a w hex hR hn hb hA
    simp only [splitRF, Option.some.injEq, Prod.mk.injEq] at h
    obtain ⟨rfl, ⟨rfl, rfl, rfl, rfl⟩, rfl⟩ := h
    exact loop ha hL (fun a w => hq .normal a w) hex hR hn hb hA
  | block i b _ =>
    intro p q g' ps' asg' bd' Q1 Q2 Q h hdp hdq hpq ha hL hx hq σ gh a w hex hR hn hb hA
    cases b with
    | rangeFunc g ps asg bd =>
      simp only [splitRF, Option.some.injEq, Prod.mk.injEq] at h
      obtain ⟨rfl, ⟨rfl, rfl, rfl, rfl⟩, rfl⟩ := h
      exact wpIn_block (loop (Q := Exit.inBlock i Q) ha hL (fun a w k => hq .normal a w k) hex hR hn hb hA)
    | _ => simp [splitRF] at h
  | seq x y ihx ihy =>
    intro p q g' ps' asg' bd' Q1 Q2 Q h hdp hdq hpq ha hL hx hq σ gh a w hex hR hn hb hA
    unfold splitRF at h
    split at h
    · rename_i p1 r1 q1 hs
      simp only [Option.some.injEq, Prod.mk.injEq] at h
      obtain ⟨rfl, rfl, rfl⟩ := h
      simp only [dstOk, plainC, Bool.and_eq_true] at hdq hpq
      refine wpIn_seq (ihx (Q1 := Q1) (Q2 := fun e σ => match e with | .normal => exec P y σ Q2 | e => Q2 e σ) hs hdp hdq.1 hpq.1 ha hL (fun e a w he k => ?_) (fun e a w k => ?_) hex hR hn hb hA)
      · have := hx e a w he k
        cases e <;> first | exact absurd rfl he | exact this
      · cases e with
        | normal => exact wpIn_mono (endsM_step hpq.2 hdq.2 k) hq
        | exit i => exact hq _ _ _ k
        | goto l => exact hq _ _ _ k
        | ret => exact hq _ _ _ k
        | panic ch => exact hq _ _ _ k
        | outgrown => exact hq _ _ _ k
    · split at h
      · rename_i p1 r1 q1 hs
        simp only [Option.some.injEq, Prod.mk.injEq] at h
        obtain ⟨rfl, rfl, rfl⟩ := h
        simp only [dstOk, Bool.and_eq_true] at hdp
        refine wpIn_seq (wpIn_mono (Q := Ends n0 N w0 A0 _) ((wpIn_wide (n := n)).2 (exec_sound x σ _ hdp.1 hex gh a w hR hn hb hA)) fun e a' w' k => ?_)
        cases e with
        | normal =>
          obtain ⟨σ', g', h1, h2, h3, h4, h5⟩ := k
          exact ihy hs hdp.2 hdq hpq ha hL hx hq h1 h2 h3 h4 h5
        | exit i => exact hx _ _ _ (by simp) k
        | goto l => exact hx _ _ _ (by simp) k
        | ret => exact hx _ _ _ (by simp) k
        | panic ch => exact hx _ _ _ (by simp) k
        | outgrown => exact hx _ _ _ (by simp) k
      · cases h
  | _ => intro p q g' ps' asg' bd' Q1 Q2 Q h; simp [splitRF] at h
theorem ps_fin {n0 : Nat → Prop} {N : Nat} {σ : St} {g : Gh} {a : Act} {w : World} {fp : List Nat} {sz : Nat} (hR : Rel n0 N σ g a w) (hr : g.R0 = RP.of fun b => b ∈ fp ∨ sz ≤ b) (fn : Func) {res : List D} (hk : onSome (resList P σ fn.results.toList) (fun vs => ownV σ [] vs res) ∨ PX P fn.results.toList res σ) :
    ∃ v, (results fn a.tmps).run P w = .ok v w ∧ ∃ us fp' tp', Ending.returned v = .returned (resVal us) ∧ GDs w res us fp' tp' ∧ fp'.Nodup ∧ ∀ b ∈ fp', b ∈ fp ∨ sz ≤ b := by
  have fin : ∀ {us : List Value} {v : Value}, (results fn a.tmps).run P w = .ok v w → v = resVal us → (∃ fp' tp', GDs w res us fp' tp' ∧ fp'.Nodup ∧ ∀ b ∈ fp', ∃ e, σ.On e ∧ b ∈ g.φ e) → ∃ v, (results fn a.tmps).run P w = .ok v w ∧ ∃ us fp' tp', Ending.returned v = .returned (resVal us) ∧ GDs w res us fp' tp' ∧ fp'.Nodup ∧ ∀ b ∈ fp', b ∈ fp ∨ sz ≤ b := fun {us v} r1 rv ⟨fp', tp', o1, o2, o3⟩ => by
    refine ⟨_, r1, us, fp', tp', by rw [rv], o1, o2, fun b hb => ?_⟩
    obtain ⟨e, l, m⟩ := o3 b hb
    have := (hR.ebase e l b m).2
    rw [hr] at this
    exact this
  rcases hk with hk | ⟨pl, hk⟩
  · obtain ⟨vs, hvs, hk⟩ := onSome_ex hk
    obtain ⟨us, r1, r2⟩ := results_run hR fn hvs
    obtain ⟨used, fp', tp', o1, o2⟩ := ownV_sound hR hk r2
    exact fin r1 rfl ⟨fp', tp', o1, o2.1, fun b hb => by obtain ⟨e, _, _, l, m⟩ := o2.2.1 b hb; exact ⟨e, l, m⟩⟩
  · obtain ⟨vs, hvs, hk⟩ := onSome_ex hk
    obtain ⟨us, r1, r2⟩ := results_run hR fn hvs
    exact fin r1 rfl (px_own hR hk r2)
/-- The walk of a function with a range over slices.Backward; what was there stays as it is. -/
theorem FC_ofB {f : FuncId} {fn : Func} {c p q asg bd : Code} {g : Operand} {ps : Array Tmp} {args res : List D} (hc : Callable P f) (hf : P.funcs[f]? = some fn) (hb : fn.body = some c) (hs : splitRF c = some (p, (g, ps, asg, bd), q))
    (hd : (dstOk fn.ntmps p && dstOk fn.ntmps q && plainC q && (plainC asg && plainC bd && dstOk fn.ntmps asg && dstOk fn.ntmps bd)) = true) (hN : (rd args).length ≤ fn.ntmps)
    (h : ex P p [] (fun e σ => match e with | .normal => LoopB P fn.ntmps g ps asg bd q (PS P fn.results.toList res) σ | .ret => PS P fn.results.toList res .ret σ | _ => False) (initN args)) : FC P f args res := by
  refine ⟨hc, fun w vs fp tp hv hn => ?_⟩
  refine (callsIn_FR (r := none) (n := 0)).1 (callsIn_of_wp_marks hf hb trivial ?_)
  obtain ⟨hr, rfl, rfl⟩ := repds_of_gargs hv
  have hv' : GArgs w (fun b => b < w.heap.size ∧ True ∧ b ∉ ([] : List Nat)) (rd args) vs [] [] := GArgs.keepA (fun b hb => ⟨hb.1, trivial, hb.2⟩) hv
  obtain ⟨gh, hg, hR⟩ := Rel.start (A0 := fun _ => True) (R0 := RP.of fun b => b ∈ ([] : List Nat) ∨ w.heap.size ≤ b) (N := fn.ntmps) hv' hn (smallG_rd args) hN (fun _ _ => trivial) (fun b hb => ⟨trivial, Or.inl hb⟩) (fun b hb => ⟨trivial, by
    by_cases hlt : b < w.heap.size
    · exact Or.inl (Classical.byContradiction fun h => hb ⟨hlt, h⟩)
    · exact Or.inr (by omega)⟩)
  have hR0 : Rel (fun b => b < w.heap.size ∧ b ∉ ([] : List Nat)) fn.ntmps (initN args) gh { tmps := (⟨vs⟩ : Array Value) ++ Array.replicate (fn.ntmps - vs.length) undef, defers := [] } w := initN_rel hr hR ⟨rfl, hg⟩
  simp only [Bool.and_eq_true] at hd
  obtain ⟨⟨⟨d1, d2⟩, d3⟩, ⟨d4, d5⟩, d6⟩ := hd
  refine split_sound (n := 0) (w0 := w) hs d1 d2 d3 ⟨d4.1, d4.2, d5, d6⟩ (fun σ h => h) ?_ ?_ h hR0 (fun k hk => hk.1) (Bk.refl _ _) hg
  · rintro e a' w' he ⟨σ', g', h1, h2, h3, h4, h5⟩
    cases e with
    | normal => exact absurd rfl he
    | ret =>
      have hr0 : g'.R0 = RP.of fun b => b ∈ ([] : List Nat) ∨ w.heap.size ≤ b := (Prod.mk.inj h5).2
      obtain ⟨v, r1, us, fp', tp', r2, r3, r4, r5⟩ := ps_fin h2 hr0 fn h1
      show LeavesInM _ _ _ _ _ _ a'.defers .returning w'
      rw [h2.defers]
      exact ⟨v, r1, us, fp', tp', r2, r3, r4, r5, h4⟩
    | exit _ => exact h1.elim
    | goto _ => exact h1.elim
    | panic _ => exact h1.elim
    | outgrown => exact h1.elim
  · rintro e a' w' ⟨D, n1, a1, σ, g', rfl, h1, h2, h3, h4, h5, h6, h7, h8, h9, h10, h11⟩
    have hk : (e = .normal ∨ e = .ret) ∧ (onSome (resList P σ fn.results.toList) (fun vs => ownV σ [] vs res) ∨ PX P fn.results.toList res σ) := by
      cases e with
      | normal => exact ⟨Or.inl rfl, h1⟩
      | ret => exact ⟨Or.inr rfl, h1⟩
      | exit _ => exact h1.elim
      | goto _ => exact h1.elim
      | panic _ => exact h1.elim
      | outgrown => exact h1.elim
    have q1 := (h2.putObj h6 h9 (.deferred none)).leave (n0 := fun b => b < w.heap.size ∧ b ∉ ([] : List Nat)) (A1 := fun _ => True) h8 (fun _ _ => trivial) (fun b hb => ⟨trivial, by
      rw [h11]
      by_cases hlt : b < w.heap.size
      · exact absurd ⟨hlt, by simp⟩ hb
      · exact Or.inr (by omega)⟩)
    obtain ⟨v, r1, us, fp', tp', r2, r3, r4, r5⟩ := ps_fin q1 h11 fn hk.2
    have main : LeavesInM (FR none) 0 P fn a1.tmps (fun e w' => ∃ us fp' tp', e = .returned (resVal us) ∧ GDs w' res us fp' tp' ∧ fp'.Nodup ∧ (∀ b ∈ fp', b ∈ ([] : List Nat) ∨ w.heap.size ≤ b) ∧ Bk (fun k => k < w.heap.size ∧ k ∉ ([] : List Nat)) w w') [{ target := .collected D, args := #[] }] .returning w' :=
      ⟨by simp, Or.inl ⟨D, _, rfl, run_takeDeferred h5, ⟨v, r1, us, fp', tp', r2, r3, r4, r5, h4.trans (Bk.putObj _ h7 _)⟩⟩⟩
    rcases hk.1 with rfl | rfl <;> exact main
end Go.Proofs.Ytgfjbbbkploonaa
/-
  The walk over plain data: the call of slices.Backward.
  Conditions: none.
-/
namespace Go.Proofs.Ytgfjbbbkploonaa
set_option linter.unusedSimpArgs false
set_option linter.unusedVariables false
set_option maxRecDepth 4000
open Go.RowKit
variable {P : Program}
/-- The function boxes its slice and returns a function that has captured the box. -/
def MakesB (P : Program) (f f1 : FuncId) : Prop := Callable P f ∧ ∀ (a : Option Addr) (len cap : Nat) (w : World), Calls P f #[.slice a len cap] w fun e w' => ∃ ty, e = .returned (.func (.func f1) #[] #[.pointer (some ⟨w.heap.size, 0, none⟩)]) ∧ w' = w.alloc (.cells #[.slice a len cap] ty)
def St.callB (σ : St) (d : Nat) (f1 : FuncId) (c : C) : St := { sl := upd σ.sl d (.one (.fn f1 [d])), bx := upd σ.bx d (some [c]), ev := σ.ev }
theorem sem_callB {o : Oper} {σ : St} {x : Operand} {asg : Array Operand} {ts : Array TypeId} {f f1 : FuncId} {d : Nat} {sz : Nat} {rows : List (List T)} (ho : o.op = .call ⟨.value x, asg, ts⟩) (hd : o.dst = some d)
    (h : MakesB P f f1) (hc : calleeOf (σ.get P 0 x) = some (f, [])) (hv : σ.gets P asg ts = [.one (.rn (.sl sz rows))]) (hb : σ.bx d = none) : StepSem P o σ (σ.callB d f1 (.rn (.sl sz rows))) := by
  intro n0 N g a w hR hn hdN
  obtain ⟨vs, h1, h2⟩ := call_run hR ho hc h.1
  rw [hv] at h2
  obtain ⟨v, vs', rfl, k1, k2⟩ := h2
  obtain rfl : vs' = [] := k2
  have k0 : CR σ g w (.rn (.sl sz rows)) v := k1
  simp only [VR, CR] at k1
  unfold RepV at k1
  obtain ⟨ao, cap, rfl, _⟩ := k1
  unfold Oper.wp
  rw [h1]
  refine (h.2 ao rows.length cap w).mono ?_
  rintro e w' ⟨ty, rfl, rfl⟩
  refine ⟨{ g with β := upd g.β d w.heap.size }, ?_, Bk.of_alloc hn _, rfl, rfl⟩
  have := (hR.newbox hn hb (cs := [.rn (.sl sz rows)]) (vs := [.slice ao rows.length cap]) ⟨_, _, rfl, k0, rfl⟩ ty).put (some d) (x := .one (.fn f1 [d])) (v := .func (.func f1) #[] #[.pointer (some ⟨w.heap.size, 0, none⟩)]) ⟨by simp [upd], by simp [upd]⟩ (fun i hi => by cases hi; exact hdN d hd)
  rw [hd]
  exact this
section
variable {ks : List Fr} {Q : Exit → St → Prop} {σ : St} {ops : Array Oper} {os : List Oper} {ty : TypeId} {ps : String} {af : Array Edge}
/-- The sequence of a slice's elements from behind. -/
theorem callB {d : Nat} {x : Operand} {asg : Array Operand} {ts : Array TypeId} {f f1 : FuncId} {sz : Nat} {rows : List (List T)} (h : MakesB P f f1) (hp : calleeOf (σ.get P 0 x) = some (f, []) ∧ σ.gets P asg ts = [.one (.rn (.sl sz rows))] ∧ σ.bx d = none)
    (k : exo P ops os ks Q (σ.callB d f1 (.rn (.sl sz rows)))) : exo P ops (⟨some d, .call ⟨.value x, asg, ts⟩, ty, ps, af, none⟩ :: os) ks Q σ :=
  exo_sem rfl rfl (sem_callB rfl rfl h hp.1 hp.2.1 hp.2.2) k
end
theorem owK_rn (t : T) (A B : Prop) : owK (.one (.rn t)) A B = B := by simp [owK, isOw]
attribute [go_sem] St.callB owK_rn
end Go.Proofs.Ytgfjbbbkploonaa
/-
  A contract over slices that are not looked into, with what they hold put in their places.
  Conditions: none.
-/
namespace Go.Proofs.Ytgfjbbbkploonaa
set_option linter.unusedSimpArgs false
set_option linter.unusedVariables false
set_option maxRecDepth 4000
open Go.RowKit
variable {P : Program}
mutual
/-- y is x with owned data in the place of slices that are not looked into; the data lies in the blocks ex. -/
def GrT (w : World) : T → T → List Nat → Prop
  | .vs a l c, y, ex => OwnV w y (.slice a l c) ex
  | .sl sz rows, y, ex => ∃ rows', y = .sl sz rows' ∧ GrRows w rows rows' ex
  | x, y, ex => y = x ∧ ex = []
def GrRows (w : World) : List (List T) → List (List T) → List Nat → Prop
  | [], ys, ex => ys = [] ∧ ex = []
  | r :: rs, ys, ex => ∃ r' rs' e1 e2, ys = r' :: rs' ∧ ex = e1 ++ e2 ∧ GrAt w r r' e1 ∧ GrRows w rs rs' e2
def GrAt (w : World) : List T → List T → List Nat → Prop
  | [], ys, ex => ys = [] ∧ ex = []
  | c :: cs, ys, ex => ∃ c' cs' e1 e2, ys = c' :: cs' ∧ ex = e1 ++ e2 ∧ GrT w c c' e1 ∧ GrAt w cs cs' e2
end
theorem GrRows.len {w : World} : ∀ {rs ys : List (List T)} {ex : List Nat}, GrRows w rs ys ex → ys.length = rs.length
  | [], ys, ex, h => by unfold GrRows at h; rw [h.1]
  | r :: rs, ys, ex, h => by
    unfold GrRows at h
    obtain ⟨r', rs', e1, e2, rfl, _, _, h2⟩ := h
    simp [h2.len]
theorem GrAt.len {w : World} : ∀ {rs ys : List T} {ex : List Nat}, GrAt w rs ys ex → ys.length = rs.length
  | [], ys, ex, h => by unfold GrAt at h; rw [h.1]
  | r :: rs, ys, ex, h => by
    unfold GrAt at h
    obtain ⟨r', rs', e1, e2, rfl, _, _, h2⟩ := h
    simp [h2.len]
theorem perm4 {f1 f2 e1 e2 g1 g2 : List Nat} (h : g1.Perm (f1 ++ e1)) (k : g2.Perm (f2 ++ e2)) : (g1 ++ g2).Perm ((f1 ++ f2) ++ (e1 ++ e2)) := by
  refine (h.append k).trans ?_
  rw [List.append_assoc, List.append_assoc]
  refine List.Perm.append_left f1 ?_
  rw [← List.append_assoc, ← List.append_assoc]
  exact List.Perm.append_right e2 List.perm_append_comm
mutual
theorem GrT.own {w : World} : ∀ (x y : T) (v : Value) (fp ex : List Nat), OwnV w x v fp → GrT w x y ex → ∃ fp', OwnV w y v fp' ∧ fp'.Perm (fp ++ ex)
  | .vs a l c, y, v, fp, ex, h, hg => by
    unfold GrT at hg
    unfold OwnV at h
    obtain ⟨rfl, rfl⟩ := h
    exact ⟨ex, hg, List.Perm.refl _⟩
  | .sl sz rows, y, v, fp, ex, h, hg => by
    unfold GrT at hg
    obtain ⟨rows', rfl, hg⟩ := hg
    unfold OwnV at h
    obtain ⟨ao, cap, h1, h2, h3, h4⟩ := h
    rcases h4 with ⟨rfl, rfl, rfl, rfl⟩ | ⟨b, cells, ty, fps, h4, rfl, h6, h7, h8⟩
    · unfold GrRows at hg
      obtain ⟨rfl, rfl⟩ := hg
      exact ⟨[], by unfold OwnV; exact ⟨none, 0, h1, h2, h3, Or.inl ⟨rfl, rfl, rfl, rfl⟩⟩, List.Perm.refl _⟩
    · obtain ⟨fps', k1, k2⟩ := GrRows.own cells 0 sz rows rows' fps ex h8 hg
      refine ⟨b :: fps', ?_, List.Perm.cons b k2⟩
      unfold OwnV
      exact ⟨ao, cap, by rw [hg.len]; exact h1, by rw [hg.len]; exact h2, h3, Or.inr ⟨b, cells, ty, fps', h4, rfl, h6, h7, k1⟩⟩
  | .int _ _, y, v, fp, ex, h, hg => by unfold GrT at hg; obtain ⟨rfl, rfl⟩ := hg; exact ⟨fp, h, by simp⟩
  | .bool _, y, v, fp, ex, h, hg => by unfold GrT at hg; obtain ⟨rfl, rfl⟩ := hg; exact ⟨fp, h, by simp⟩
  | .str _, y, v, fp, ex, h, hg => by unfold GrT at hg; obtain ⟨rfl, rfl⟩ := hg; exact ⟨fp, h, by simp⟩
  | .ptr _, y, v, fp, ex, h, hg => by unfold GrT at hg; obtain ⟨rfl, rfl⟩ := hg; exact ⟨fp, h, by simp⟩
  | .fn _ _, y, v, fp, ex, h, hg => by unfold GrT at hg; obtain ⟨rfl, rfl⟩ := hg; exact ⟨fp, h, by simp⟩
  | .mp _ _, y, v, fp, ex, h, hg => by unfold GrT at hg; obtain ⟨rfl, rfl⟩ := hg; exact ⟨fp, h, by simp⟩
  | .pin _ _, y, v, fp, ex, h, hg => by unfold GrT at hg; obtain ⟨rfl, rfl⟩ := hg; exact ⟨fp, h, by simp⟩
theorem GrRows.own {w : World} (cells : Array Value) : ∀ (o sz : Nat) (rs ys : List (List T)) (fps ex : List Nat), OwnRows w cells o sz rs fps → GrRows w rs ys ex → ∃ fps', OwnRows w cells o sz ys fps' ∧ fps'.Perm (fps ++ ex)
  | _, _, [], ys, fps, ex, h, hg => by unfold GrRows at hg; obtain ⟨rfl, rfl⟩ := hg; exact ⟨fps, h, by simp⟩
  | o, sz, r :: rs, ys, fps, ex, h, hg => by
    unfold GrRows at hg
    obtain ⟨r', rs', e1, e2, rfl, rfl, g1, g2⟩ := hg
    unfold OwnRows at h
    obtain ⟨h1, f1, f2, rfl, h2, h3⟩ := h
    obtain ⟨f1', k1, k2⟩ := GrAt.own cells o r r' f1 e1 h2 g1
    obtain ⟨f2', l1, l2⟩ := GrRows.own cells (o + sz) sz rs rs' f2 e2 h3 g2
    refine ⟨f1' ++ f2', ?_, perm4 k2 l2⟩
    unfold OwnRows
    exact ⟨by rw [g1.len]; exact h1, f1', f2', rfl, k1, l1⟩
theorem GrAt.own {w : World} (cells : Array Value) : ∀ (o : Nat) (cs ys : List T) (fps ex : List Nat), OwnAt w cells o cs fps → GrAt w cs ys ex → ∃ fps', OwnAt w cells o ys fps' ∧ fps'.Perm (fps ++ ex)
  | _, [], ys, fps, ex, h, hg => by unfold GrAt at hg; obtain ⟨rfl, rfl⟩ := hg; exact ⟨fps, h, by simp⟩
  | o, c :: cs, ys, fps, ex, h, hg => by
    unfold GrAt at hg
    obtain ⟨c', cs', e1, e2, rfl, rfl, g1, g2⟩ := hg
    unfold OwnAt at h
    obtain ⟨v, f1, f2, h1, rfl, h2, h3⟩ := h
    obtain ⟨f1', k1, k2⟩ := GrT.own c c' v f1 e1 h2 g1
    obtain ⟨f2', l1, l2⟩ := GrAt.own cells (o + 1) cs cs' f2 e2 h3 g2
    refine ⟨f1' ++ f2', ?_, perm4 k2 l2⟩
    unfold OwnAt
    exact ⟨v, f1', f2', h1, rfl, k1, l1⟩
end
theorem GrAt.ownG {w : World} : ∀ (cs ys : List T) (vs : List Value) (fp ex tp : List Nat), GAll w cs vs fp tp → GrAt w cs ys ex → ∃ fp' tp', GAll w ys vs fp' tp' ∧ fp'.Perm (fp ++ ex)
  | [], ys, vs, fp, ex, tp, h, hg => by unfold GrAt at hg; obtain ⟨rfl, rfl⟩ := hg; exact ⟨fp, tp, h, by simp⟩
  | c :: cs, ys, vs, fp, ex, tp, h, hg => by
    unfold GrAt at hg
    obtain ⟨c', cs', e1, e2, rfl, rfl, g1, g2⟩ := hg
    obtain ⟨v, vs', f1, f2, t2, rfl, rfl, rfl, h2, h3⟩ := h
    obtain ⟨f1', k1, k2⟩ := GrT.own c c' v f1 e1 h2 g1
    obtain ⟨f2', t2', l1, l2⟩ := GrAt.ownG cs cs' vs' f2 e2 t2 h3 g2
    exact ⟨f1' ++ f2', topT c' f1' ++ t2', ⟨v, vs', f1', f2', t2', rfl, rfl, rfl, k1, l1⟩, perm4 k2 l2⟩
def GrD (w : World) : D → D → List Nat → Prop
  | .one x, .one y, ex => GrT w x y ex
  | .agg xs, .agg ys, ex => GrAt w xs ys ex
  | _, _, _ => False
theorem GrD.own {w : World} {x y : D} {v : Value} {fp ex tp : List Nat} (h : GD w x v fp tp) (hg : GrD w x y ex) : ∃ fp' tp', GD w y v fp' tp' ∧ fp'.Perm (fp ++ ex) := by
  cases x with
  | one x =>
    cases y with
    | one y => obtain ⟨fp', h1, h2⟩ := GrT.own x y v fp ex h.1 hg; exact ⟨fp', _, ⟨h1, rfl⟩, h2⟩
    | agg _ => exact hg.elim
  | agg xs =>
    cases y with
    | one _ => exact hg.elim
    | agg ys => obtain ⟨a, rfl, h⟩ := h; obtain ⟨fp', tp', h1, h2⟩ := GrAt.ownG xs ys a fp ex tp h hg; exact ⟨fp', tp', ⟨a, rfl, h1⟩, h2⟩
/-- A contract over slices that are not looked into becomes one for given data. -/
theorem GC_of_graft {f : FuncId} {args : List (Bool × D)} {y : D} (hc : Callable P f)
    (h : ∀ (w : World) (vs : List Value) (fp tp : List Nat), GArgs w (fun b => b < w.heap.size ∧ b ∉ fp) args vs fp tp → fp.Nodup → ∃ (args' : List D) (x : D) (ex : List Nat), FC P f args' [x] ∧ RepDs w (fun b => b < w.heap.size) args' vs ∧
      ex.Nodup ∧ (∀ b ∈ ex, b ∈ fp ∧ b < w.heap.size) ∧ ∀ w' : World, (∀ b ∈ ex, w'.heap[b]? = w.heap[b]?) → GrD w' x y ex) : GC P f args [y] := by
  refine ⟨hc, fun w vs fp tp hv hn => ?_⟩
  obtain ⟨args', x, ex, hf, hr, hen, hlt, hg⟩ := h w vs fp tp hv hn
  have ha : GArgs w (fun b => b < w.heap.size ∧ b ∉ ([] : List Nat)) (rd args') vs [] [] := by
    clear hf hg hv
    induction args' generalizing vs with
    | nil => exact ⟨hr, rfl, rfl⟩
    | cons d ds ih =>
      obtain ⟨v, vs', rfl, h1, h2⟩ := hr
      refine ⟨v, vs', rfl, ?_, ih _ h2⟩
      have : RepDs w (fun b => b < w.heap.size ∧ b ∉ ([] : List Nat)) [d] [v] := RepDs.keep (fun _ _ => rfl) (fun b hb => ⟨hb, by simp⟩) (⟨v, [], rfl, h1, rfl⟩ : RepDs w (fun b => b < w.heap.size) [d] [v])
      obtain ⟨_, _, e, h3, _⟩ := this
      cases e; exact h3
  refine (hf.2 w vs [] [] ha List.nodup_nil).mono ?_
  rintro e w' ⟨us, fp', tp', rfl, k1, k2, k3, k4⟩
  obtain ⟨u, us', f1, f2, t1, t2, rfl, rfl, rfl, k5, k6⟩ := k1
  obtain ⟨rfl, rfl, rfl⟩ := k6
  obtain ⟨fp'', tp'', l1, l2⟩ := GrD.own k5 (hg w' fun b hb => k4.block b ⟨(hlt b hb).2, by simp⟩)
  have hnew : ∀ b ∈ f1, w.heap.size ≤ b := fun b hb => by simpa using k3 b (by simpa using hb)
  refine ⟨[u], fp'', tp'', rfl, ⟨u, [], fp'', [], tp'', [], rfl, by simp, by simp, l1, rfl, rfl, rfl⟩, ?_, fun b hb => ?_, ⟨k4.os, k4.tape, k4.output, k4.size, fun k hk => k4.block k ⟨hk.1, by simp⟩⟩⟩
  · refine l2.nodup_iff.2 (List.nodup_append.2 ⟨by simpa using k2, hen, fun a ha b hb e => ?_⟩)
    subst e
    have := hnew a ha; have := (hlt a hb).2; omega
  · rcases List.mem_append.1 (l2.mem_iff.1 hb) with hb | hb
    · exact Or.inr (hnew b hb)
    · exact Or.inl (hlt b hb).1
def anyAll (f : Nat → V) : List Nat → Prop
  | [] => True
  | i :: is => f i = .one .any ∧ anyAll f is
theorem anyAll_mem {f : Nat → V} : ∀ {l : List Nat}, anyAll f l → ∀ i ∈ l, f i = .one .any
  | [], _, i, hi => by simp at hi
  | j :: l, h, i, hi => by
    rcases List.mem_cons.1 hi with rfl | hi
    · exact h.1
    · exact anyAll_mem h.2 i hi
def RdB (P : Program) (bd : Code) (σ' : St) (e : Exit) (σ : St) : Prop := match e with
  | .normal => ex P bd [] (fun e σ => match e with | .normal => Wk σ σ' | _ => False) σ
  | _ => False
theorem loopB {N t p1 p2 : Nat} {asg bd q : Code} {Q : Exit → St → Prop} {σ : St} {F1 : FuncId} {ag : Bool} {sz : Nat} (hB : BackFn P F1 ag sz) (hc : Callable P F1) (id : Nat) (H : Nat → St) (rows : List (List T)) (h1 : (decide (p1 < N) && decide (p2 < N) && decide (t < 1000000)) = true) (h2 : (ag || sz == 1) = true)
    (h3 : ∀ k, (H k).sl t = .one (.fn F1 [id]) ∧ (H k).bx id = some [.rn (.sl sz rows)]) (h4 : ∀ k, anyAll (H k).sl (p1 :: p2 :: (dstsC asg ++ dstsC bd))) (h6 : Wk σ (H 0))
    (h5 : ∀ k, k < rows.length → ex P asg [] (RdB P bd (H (k + 1))) (((H k).put (some p1) (.one (.t (.int .i64 ((rows.length - 1 - k : Nat) : Int))))).put (some p2) (rowN ag (rows.getD (rows.length - 1 - k) []))))
    (h7 : ex P q [] Q (H rows.length)) : LoopB P N (.tmp t) #[p1, p2] asg bd q Q σ := by
  simp only [Bool.and_eq_true, decide_eq_true_eq, Bool.or_eq_true, beq_iff_eq] at h1 h2
  refine ⟨F1, ag, sz, t, p1, p2, id, H, rows, rfl, rfl, hB, hc, ⟨h1.1.1, h1.1.2, h1.2⟩, h2, h3, fun k => anyAll_mem (h4 k), fun k hk => ?_, h6, h7⟩
  refine exec_mono (fun e σ2 h => ?_) (h5 k hk)
  cases e with
  | normal =>
    refine ⟨rfl, exec_mono (fun e σ3 h => ?_) h⟩
    cases e with
    | normal => exact ⟨rfl, h⟩
    | exit _ => exact (show False from h).elim
    | goto _ => exact (show False from h).elim
    | ret => exact (show False from h).elim
    | panic _ => exact (show False from h).elim
    | outgrown => exact (show False from h).elim
  | exit _ => exact (show False from h).elim
  | goto _ => exact (show False from h).elim
  | ret => exact (show False from h).elim
  | panic _ => exact (show False from h).elim
  | outgrown => exact (show False from h).elim
def HdB (P : Program) (fn : Func) (res : List D) (g : Operand) (ps : Array Tmp) (asg bd q : Code) (e : Exit) (σ : St) : Prop := match e with
  | .normal => LoopB P fn.ntmps g ps asg bd q (PS P fn.results.toList res) σ
  | .ret => PS P fn.results.toList res .ret σ
  | _ => False
theorem HdB_normal (fn : Func) (res : List D) (g : Operand) (ps : Array Tmp) (asg bd q : Code) (σ : St) : HdB P fn res g ps asg bd q .normal σ = LoopB P fn.ntmps g ps asg bd q (PS P fn.results.toList res) σ := rfl
theorem HdB_ret (fn : Func) (res : List D) (g : Operand) (ps : Array Tmp) (asg bd q : Code) (σ : St) : HdB P fn res g ps asg bd q .ret σ = PS P fn.results.toList res .ret σ := rfl
theorem RdB_normal (bd : Code) (σ' σ : St) : RdB P bd σ' .normal σ = ex P bd [] (fun e σ => match e with | .normal => Wk σ σ' | _ => False) σ := rfl
theorem FC_ofBH {f : FuncId} {fn : Func} {c p q asg bd : Code} {g : Operand} {ps : Array Tmp} {args res : List D} (hc : Callable P f) (hf : P.funcs[f]? = some fn) (hb : fn.body = some c) (hs : splitRF c = some (p, (g, ps, asg, bd), q))
    (hd : (dstOk fn.ntmps p && dstOk fn.ntmps q && plainC q && (plainC asg && plainC bd && dstOk fn.ntmps asg && dstOk fn.ntmps bd)) = true) (hN : (rd args).length ≤ fn.ntmps)
    (h : ex P p [] (HdB P fn res g ps asg bd q) (initN args)) : FC P f args res :=
  FC_ofB hc hf hb hs hd hN (exec_mono (fun e σ h => by cases e <;> exact h) h)
attribute [go_sem] HdB_normal HdB_ret RdB_normal
end Go.Proofs.Ytgfjbbbkploonaa
/-
  The walk over plain data: owned slices under other names.
  Conditions: none.
-/
namespace Go.Proofs.Ytgfjbbbkploonaa
set_option linter.unusedSimpArgs false
set_option linter.unusedVariables false
set_option maxRecDepth 4000
open Go.RowKit
variable {P : Program}
def swp (a b e : Nat) : Nat := if e = a then b else if e = b then a else e
theorem swp_inv (a b e : Nat) : swp a b (swp a b e) = e := by unfold swp; split <;> (try split) <;> (try split) <;> omega
def C.ren (a b : Nat) : C → C
  | .ow e g => .ow (swp a b e) g
  | .eo e g sz i o => .eo (swp a b e) g sz i o
  | c => c
def V.ren (a b : Nat) : V → V
  | .one c => .one (c.ren a b)
  | .agg cs => .agg (cs.map (C.ren a b))
  | .tup xs => .tup (xs.map fun x => (x.1, x.2.map (C.ren a b)))
def St.ren (σ : St) (a b : Nat) : St := ⟨fun i => (σ.sl i).ren a b, fun k => (σ.bx k).map (·.map (C.ren a b)), fun e => σ.ev (swp a b e)⟩
def Gh.ren (g : Gh) (a b : Nat) : Gh := { g with ψ := fun e => g.ψ (swp a b e), φ := fun e => g.φ (swp a b e) }
theorem bx_ren {σ : St} {a b k : Nat} : (σ.ren a b).bx k ≠ none ↔ σ.bx k ≠ none := by unfold St.ren; simp
theorem has_ren {σ : St} {a b e n : Nat} (h : σ.has e n) : (σ.ren a b).has (swp a b e) n := by
  obtain ⟨x, h1, h2⟩ := h
  exact ⟨x, by show σ.ev (swp a b (swp a b e)) = _; rw [swp_inv]; exact h1, h2⟩
theorem fix_ren {σ : St} {g : Gh} {w : World} {a b : Nat} : Fix (σ.ren a b) (g.ren a b) w = Fix σ g w := by
  funext q
  refine propext ⟨fun h => ⟨fun k hk => h.1 k (bx_ren.2 hk), fun e x he ho => ?_, h.2.2⟩, fun h => ⟨fun k hk => h.1 k (bx_ren.1 hk), fun e x he ho => h.2.1 (swp a b e) x he ho, h.2.2⟩⟩
  have := h.2.1 (swp a b e) x (by show σ.ev (swp a b (swp a b e)) = _; rw [swp_inv]; exact he) ho
  have e2 : (g.ren a b).φ (swp a b e) = g.φ e := by show g.φ (swp a b (swp a b e)) = _; rw [swp_inv]
  rwa [e2] at this
theorem cr_ren {σ : St} {g : Gh} {w : World} {a b : Nat} {c : C} {v : Value} (h : CR σ g w c v) : CR (σ.ren a b) (g.ren a b) w (c.ren a b) v := by
  have hF := fix_ren (σ := σ) (g := g) (w := w) (a := a) (b := b)
  have hψ : ∀ e, (g.ren a b).ψ (swp a b e) = g.ψ e := fun e => by show g.ψ (swp a b (swp a b e)) = _; rw [swp_inv]
  cases c with
  | t x => show RepV _ _ _ _; rw [hF]; exact h
  | nl s => exact h
  | ow e n => exact ⟨by show v = (g.ren a b).ψ (swp a b e) n; rw [hψ]; exact h.1, has_ren h.2⟩
  | bx q o => exact ⟨h.1, bx_ren.2 h.2⟩
  | el cs o => obtain ⟨q, r, h1, h2, h3⟩ := h; exact ⟨q, r, h1, by rw [hF]; exact h2, by rw [hF]; exact h3⟩
  | eo e s sz i o => obtain ⟨q, n, c, h1, h2, h3, h4⟩ := h; exact ⟨q, n, c, by rw [hψ]; exact h1, h2, h3, has_ren h4⟩
  | fn f caps => exact ⟨h.1, fun q hq => bx_ren.2 (h.2 q hq)⟩
  | cv u => exact h
  | any => trivial
  | rn x => show RepV _ _ _ _; rw [hF]; exact h
theorem crs_ren {σ : St} {g : Gh} {w : World} {a b : Nat} : ∀ {cs : List C} {vs : List Value}, CRs σ g w cs vs → CRs (σ.ren a b) (g.ren a b) w (cs.map (C.ren a b)) vs
  | [], _, h => h
  | c :: cs, _, h => by obtain ⟨v, vs', rfl, h1, h2⟩ := h; exact ⟨v, vs', rfl, cr_ren h1, crs_ren h2⟩
theorem crt_ren {σ : St} {g : Gh} {w : World} {a b : Nat} : ∀ {xs : List (Bool × List C)} {vs : List Value}, CRt σ g w xs vs → CRt (σ.ren a b) (g.ren a b) w (xs.map fun x => (x.1, x.2.map (C.ren a b))) vs
  | [], _, h => h
  | x :: xs, _, h => by
    obtain ⟨v, vs', rfl, h1, h2⟩ := h
    refine ⟨v, vs', rfl, ?_, crt_ren h2⟩
    unfold CRx at h1 ⊢
    split at h1
    · rw [if_pos ‹_›]; obtain ⟨q, h3, h4⟩ := h1; exact ⟨q, h3, crs_ren h4⟩
    · rw [if_neg ‹_›]; obtain ⟨c, h3, h4⟩ := h1; exact ⟨c.ren a b, by simp [h3], cr_ren h4⟩
theorem vr_ren {σ : St} {g : Gh} {w : World} {a b : Nat} {x : V} {v : Value} (h : VR σ g w x v) : VR (σ.ren a b) (g.ren a b) w (x.ren a b) v := by
  cases x with
  | one c => exact cr_ren h
  | agg cs => obtain ⟨q, h1, h2⟩ := h; exact ⟨q, h1, crs_ren h2⟩
  | tup xs => obtain ⟨q, h1, h2⟩ := h; exact ⟨q, h1, crt_ren h2⟩
theorem on_ren {σ : St} {a b e : Nat} (h : (σ.ren a b).On e) : σ.On (swp a b e) := h
theorem Rel.ren {n0 : Nat → Prop} {N : Nat} {σ : St} {g : Gh} {ac : Act} {w : World} (h : Rel n0 N σ g ac w) (a b : Nat) : Rel n0 N (σ.ren a b) (g.ren a b) ac w := by
  have hF := fix_ren (σ := σ) (g := g) (w := w) (a := a) (b := b)
  refine ⟨h.defers, h.size, h.anew, fun i => vr_ren (h.slots i), fun k cs hk => ?_, fun k hk => h.base k (bx_ren.1 hk), fun k k' h1 h2 => h.inj k k' (bx_ren.1 h1) (bx_ren.1 h2), fun e x he ho => ?_, fun e x he ho => ?_, fun e n => h.slc (swp a b e) n, fun e he => h.ebase _ (on_ren he), fun e he => h.etop _ (on_ren he), fun e he => h.nodup _ (on_ren he), fun e e' he he' hne => h.apart _ _ (on_ren he) (on_ren he') (fun k => hne (by rw [← swp_inv a b e, k, swp_inv])), fun e k he hk => h.ebx _ k (on_ren he) (bx_ren.1 hk)⟩
  · obtain ⟨cs0, h1, rfl⟩ := Option.map_eq_some_iff.1 hk
    obtain ⟨vs, ty, k1, k2⟩ := h.boxes k cs0 h1
    exact ⟨vs, ty, k1, crs_ren k2⟩
  · rw [hF]; exact h.evs (swp a b e) x he ho
  · rw [hF]; exact h.offs (swp a b e) x he ho
theorem upds_ren (a b : Nat) : ∀ (l : List (Nat × V)) (i : Nat), (upds l i).ren a b = upds (l.map fun p => (p.1, p.2.ren a b)) i
  | [], i => rfl
  | (j, v) :: l, i => by
    simp only [List.map_cons, upds]
    split
    · rfl
    · exact upds_ren a b l i
theorem tbl_map {α β : Type} (f : α → β) : ∀ (l : List (Nat × α)) (i : Nat), (tbl l i).map f = tbl (l.map fun p => (p.1, f p.2)) i
  | [], i => rfl
  | (j, v) :: l, i => by
    simp only [List.map_cons, tbl]
    split
    · rfl
    · exact tbl_map f l i
theorem tbl_key {α : Type} (a b : Nat) : ∀ (l : List (Nat × α)) (i : Nat), tbl l (swp a b i) = tbl (l.map fun p => (swp a b p.1, p.2)) i
  | [], i => rfl
  | (j, v) :: l, i => by
    simp only [List.map_cons, tbl]
    by_cases h : swp a b i = j
    · rw [if_pos h, if_pos (by rw [← h, swp_inv])]
    · rw [if_neg h, if_neg (fun e => h (by rw [e, swp_inv]))]
      exact tbl_key a b l i
/-- The owned slices a and b under each other's names. -/
theorem wk_ren (a b : Nat) (l : List (Nat × V)) (bl : List (Nat × List C)) (el : List (Nat × Ev)) : Wk (hd l bl el) (hd (l.map fun p => (p.1, p.2.ren a b)) (bl.map fun p => (p.1, p.2.map (C.ren a b))) (el.map fun p => (swp a b p.1, p.2))) := fun n0 N g ac w hR => by
  have e : (hd l bl el).ren a b = hd (l.map fun p => (p.1, p.2.ren a b)) (bl.map fun p => (p.1, p.2.map (C.ren a b))) (el.map fun p => (swp a b p.1, p.2)) := by
    unfold hd St.ren
    simp only [St.mk.injEq]
    exact ⟨funext fun i => upds_ren a b l i, funext fun k => tbl_map _ bl k, funext fun e => tbl_key a b el e⟩
  exact ⟨g.ren a b, e ▸ hR.ren a b, rfl, rfl⟩
end Go.Proofs.Ytgfjbbbkploonaa
/-
  What the walk asks of the types of the program.
  Conditions: none.
-/
namespace Go.Proofs.Ytgfjbbbkploonaa
theorem nl_0 : nlT Try.prog 0 = 0 := by kernel_rfl
theorem nl_1 : nlT Try.prog 1 = 0 := by kernel_rfl
theorem ag_1 : aggT Try.prog 1 = some false := by kernel_rfl
theorem sz_1 : sizeT Try.prog 1 = some 1 := by kernel_rfl
theorem ze_1 : zeroT Try.prog 1 = some [.cv .nilFunc] := by kernel_rfl
theorem nl_2 : nlT Try.prog 2 = 0 := by kernel_rfl
theorem ag_2 : aggT Try.prog 2 = some false := by kernel_rfl
theorem sz_2 : sizeT Try.prog 2 = some 1 := by kernel_rfl
theorem in_2 : intT Try.prog 2 = some .i64 := by kernel_rfl
theorem ze_2 : zeroT Try.prog 2 = some [.t (.int .i64 0)] := by kernel_rfl
theorem nl_3 : nlT Try.prog 3 = 0 := by kernel_rfl
theorem ag_3 : aggT Try.prog 3 = some false := by kernel_rfl
theorem sz_3 : sizeT Try.prog 3 = some 1 := by kernel_rfl
theorem in_3 : intT Try.prog 3 = some .i64 := by kernel_rfl
theorem ze_3 : zeroT Try.prog 3 = some [.t (.int .i64 0)] := by kernel_rfl
theorem nl_4 : nlT Try.prog 4 = 0 := by kernel_rfl
theorem ag_4 : aggT Try.prog 4 = some false := by kernel_rfl
theorem sz_4 : sizeT Try.prog 4 = some 1 := by kernel_rfl
theorem bo_4 : boolT Try.prog 4 = true := by kernel_rfl
theorem ze_4 : zeroT Try.prog 4 = some [.t (.bool false)] := by kernel_rfl
theorem nl_5 : nlT Try.prog 5 = 0 := by kernel_rfl
theorem ag_5 : aggT Try.prog 5 = some false := by kernel_rfl
theorem sz_5 : sizeT Try.prog 5 = some 1 := by kernel_rfl
theorem in_5 : intT Try.prog 5 = some .u8 := by kernel_rfl
theorem ze_5 : zeroT Try.prog 5 = some [.t (.int .u8 0)] := by kernel_rfl
theorem nl_6 : nlT Try.prog 6 = 0 := by kernel_rfl
theorem ag_6 : aggT Try.prog 6 = some false := by kernel_rfl
theorem sz_6 : sizeT Try.prog 6 = some 1 := by kernel_rfl
theorem in_6 : intT Try.prog 6 = some .u8 := by kernel_rfl
theorem ze_6 : zeroT Try.prog 6 = some [.t (.int .u8 0)] := by kernel_rfl
theorem nl_7 : nlT Try.prog 7 = 0 := by kernel_rfl
theorem ag_7 : aggT Try.prog 7 = some true := by kernel_rfl
theorem sz_7 : sizeT Try.prog 7 = some 4 := by kernel_rfl
theorem ze_7 : zeroT Try.prog 7 = some [.t (.int .i64 0), .t (.int .i64 0), .t (.bool false), .t (.int .u8 0)] := by kernel_rfl
theorem pl_7 : plsT Try.prog 7 = some [(0, 1), (1, 1), (2, 1), (3, 1)] := by kernel_rfl
theorem fl_7_0 : fldT Try.prog 7 0 = some (0, 2) := by kernel_rfl
theorem ft_7_0 : ftyT Try.prog 7 0 = 2 := by kernel_rfl
theorem fl_7_1 : fldT Try.prog 7 1 = some (1, 3) := by kernel_rfl
theorem ft_7_1 : ftyT Try.prog 7 1 = 3 := by kernel_rfl
theorem fl_7_2 : fldT Try.prog 7 2 = some (2, 4) := by kernel_rfl
theorem ft_7_2 : ftyT Try.prog 7 2 = 4 := by kernel_rfl
theorem fl_7_3 : fldT Try.prog 7 3 = some (3, 6) := by kernel_rfl
theorem ft_7_3 : ftyT Try.prog 7 3 = 6 := by kernel_rfl
theorem nl_8 : nlT Try.prog 8 = 0 := by kernel_rfl
theorem ag_8 : aggT Try.prog 8 = some true := by kernel_rfl
theorem sz_8 : sizeT Try.prog 8 = some 4 := by kernel_rfl
theorem ze_8 : zeroT Try.prog 8 = some [.t (.int .i64 0), .t (.int .i64 0), .t (.bool false), .t (.int .u8 0)] := by kernel_rfl
theorem pl_8 : plsT Try.prog 8 = some [(0, 1), (1, 1), (2, 1), (3, 1)] := by kernel_rfl
theorem fl_8_0 : fldT Try.prog 8 0 = some (0, 2) := by kernel_rfl
theorem ft_8_0 : ftyT Try.prog 8 0 = 2 := by kernel_rfl
theorem fl_8_1 : fldT Try.prog 8 1 = some (1, 3) := by kernel_rfl
theorem ft_8_1 : ftyT Try.prog 8 1 = 3 := by kernel_rfl
theorem fl_8_2 : fldT Try.prog 8 2 = some (2, 4) := by kernel_rfl
theorem ft_8_2 : ftyT Try.prog 8 2 = 4 := by kernel_rfl
theorem fl_8_3 : fldT Try.prog 8 3 = some (3, 6) := by kernel_rfl
theorem ft_8_3 : ftyT Try.prog 8 3 = 6 := by kernel_rfl
theorem nl_9 : nlT Try.prog 9 = 0 := by kernel_rfl
theorem ag_9 : aggT Try.prog 9 = some false := by kernel_rfl
theorem sz_9 : sizeT Try.prog 9 = some 1 := by kernel_rfl
theorem in_9 : intT Try.prog 9 = none := by kernel_rfl
theorem st_9 : strT Try.prog 9 = true := by kernel_rfl
theorem ze_9 : zeroT Try.prog 9 = some [.t (.str [])] := by kernel_rfl
theorem nl_10 : nlT Try.prog 10 = 0 := by kernel_rfl
theorem ag_10 : aggT Try.prog 10 = some false := by kernel_rfl
theorem sz_10 : sizeT Try.prog 10 = some 1 := by kernel_rfl
theorem in_10 : intT Try.prog 10 = none := by kernel_rfl
theorem st_10 : strT Try.prog 10 = true := by kernel_rfl
theorem ze_10 : zeroT Try.prog 10 = some [.t (.str [])] := by kernel_rfl
theorem nl_11 : nlT Try.prog 11 = 0 := by kernel_rfl
theorem ag_11 : aggT Try.prog 11 = some false := by kernel_rfl
theorem sz_11 : sizeT Try.prog 11 = some 1 := by kernel_rfl
theorem in_11 : intT Try.prog 11 = none := by kernel_rfl
theorem st_11 : strT Try.prog 11 = true := by kernel_rfl
theorem ze_11 : zeroT Try.prog 11 = some [.t (.str [])] := by kernel_rfl
theorem nl_12 : nlT Try.prog 12 = 0 := by kernel_rfl
theorem ag_12 : aggT Try.prog 12 = some false := by kernel_rfl
theorem sz_12 : sizeT Try.prog 12 = some 1 := by kernel_rfl
theorem in_12 : intT Try.prog 12 = some .u64 := by kernel_rfl
theorem ze_12 : zeroT Try.prog 12 = some [.t (.int .u64 0)] := by kernel_rfl
theorem nl_13 : nlT Try.prog 13 = 0 := by kernel_rfl
theorem ag_13 : aggT Try.prog 13 = some true := by kernel_rfl
theorem sz_13 : sizeT Try.prog 13 = some 2 := by kernel_rfl
theorem ze_13 : zeroT Try.prog 13 = some [.t (.str []), .t (.int .u64 0)] := by kernel_rfl
theorem pl_13 : plsT Try.prog 13 = some [(0, 1), (1, 1)] := by kernel_rfl
theorem fl_13_0 : fldT Try.prog 13 0 = some (0, 9) := by kernel_rfl
theorem ft_13_0 : ftyT Try.prog 13 0 = 9 := by kernel_rfl
theorem fl_13_1 : fldT Try.prog 13 1 = some (1, 12) := by kernel_rfl
theorem ft_13_1 : ftyT Try.prog 13 1 = 12 := by kernel_rfl
theorem nl_14 : nlT Try.prog 14 = 0 := by kernel_rfl
theorem ag_14 : aggT Try.prog 14 = some true := by kernel_rfl
theorem sz_14 : sizeT Try.prog 14 = some 2 := by kernel_rfl
theorem ze_14 : zeroT Try.prog 14 = some [.t (.str []), .t (.int .u64 0)] := by kernel_rfl
theorem pl_14 : plsT Try.prog 14 = some [(0, 1), (1, 1)] := by kernel_rfl
theorem fl_14_0 : fldT Try.prog 14 0 = some (0, 9) := by kernel_rfl
theorem ft_14_0 : ftyT Try.prog 14 0 = 9 := by kernel_rfl
theorem fl_14_1 : fldT Try.prog 14 1 = some (1, 12) := by kernel_rfl
theorem ft_14_1 : ftyT Try.prog 14 1 = 12 := by kernel_rfl
theorem nl_15 : nlT Try.prog 15 = 0 := by kernel_rfl
theorem ag_15 : aggT Try.prog 15 = some false := by kernel_rfl
theorem sz_15 : sizeT Try.prog 15 = some 1 := by kernel_rfl
theorem ze_15 : zeroT Try.prog 15 = some [.cv (.pointer none)] := by kernel_rfl
theorem nl_16 : nlT Try.prog 16 = 0 := by kernel_rfl
theorem ag_16 : aggT Try.prog 16 = some false := by kernel_rfl
theorem sz_16 : sizeT Try.prog 16 = some 1 := by kernel_rfl
theorem ze_16 : zeroT Try.prog 16 = some [.cv (.pointer none)] := by kernel_rfl
theorem nl_17 : nlT Try.prog 17 = 0 := by kernel_rfl
theorem ag_17 : aggT Try.prog 17 = some false := by kernel_rfl
theorem sz_17 : sizeT Try.prog 17 = some 1 := by kernel_rfl
theorem ze_17 : zeroT Try.prog 17 = some [.cv (.pointer none)] := by kernel_rfl
theorem nl_18 : nlT Try.prog 18 = 0 := by kernel_rfl
theorem ag_18 : aggT Try.prog 18 = some true := by kernel_rfl
theorem sz_18 : sizeT Try.prog 18 = some 1 := by kernel_rfl
theorem ze_18 : zeroT Try.prog 18 = some [.cv (.pointer none)] := by kernel_rfl
theorem pl_18 : plsT Try.prog 18 = some [(0, 1)] := by kernel_rfl
theorem fl_18_0 : fldT Try.prog 18 0 = some (0, 17) := by kernel_rfl
theorem ft_18_0 : ftyT Try.prog 18 0 = 17 := by kernel_rfl
theorem nl_19 : nlT Try.prog 19 = 0 := by kernel_rfl
theorem ag_19 : aggT Try.prog 19 = some true := by kernel_rfl
theorem sz_19 : sizeT Try.prog 19 = some 1 := by kernel_rfl
theorem ze_19 : zeroT Try.prog 19 = some [.cv (.pointer none)] := by kernel_rfl
theorem pl_19 : plsT Try.prog 19 = some [(0, 1)] := by kernel_rfl
theorem fl_19_0 : fldT Try.prog 19 0 = some (0, 17) := by kernel_rfl
theorem ft_19_0 : ftyT Try.prog 19 0 = 17 := by kernel_rfl
theorem nl_20 : nlT Try.prog 20 = 0 := by kernel_rfl
theorem ag_20 : aggT Try.prog 20 = some false := by kernel_rfl
theorem sz_20 : sizeT Try.prog 20 = some 1 := by kernel_rfl
theorem ze_20 : zeroT Try.prog 20 = some [.cv .nilIface] := by kernel_rfl
theorem nl_21 : nlT Try.prog 21 = 0 := by kernel_rfl
theorem ag_21 : aggT Try.prog 21 = some false := by kernel_rfl
theorem sz_21 : sizeT Try.prog 21 = some 1 := by kernel_rfl
theorem in_21 : intT Try.prog 21 = some .i32 := by kernel_rfl
theorem ze_21 : zeroT Try.prog 21 = some [.t (.int .i32 0)] := by kernel_rfl
theorem nl_22 : nlT Try.prog 22 = 5 := by kernel_rfl
theorem ag_22 : aggT Try.prog 22 = some false := by kernel_rfl
theorem sz_22 : sizeT Try.prog 22 = some 1 := by kernel_rfl
theorem el_22 : elT Try.prog 22 = some 49 := by kernel_rfl
theorem by_49_22 : bytesT Try.prog 49 = some 88 := by kernel_rfl
theorem us_22 : u8S Try.prog 22 = false := by kernel_rfl
theorem in_22 : intT Try.prog 22 = none := by kernel_rfl
theorem ze_22 : zeroT Try.prog 22 = some [.nl 5] := by kernel_rfl
theorem nl_23 : nlT Try.prog 23 = 0 := by kernel_rfl
theorem ag_23 : aggT Try.prog 23 = some true := by kernel_rfl
theorem sz_23 : sizeT Try.prog 23 = some 2 := by kernel_rfl
theorem ze_23 : zeroT Try.prog 23 = some [.nl 5, .nl 5] := by kernel_rfl
theorem pl_23 : plsT Try.prog 23 = some [(0, 1), (1, 1)] := by kernel_rfl
theorem fl_23_0 : fldT Try.prog 23 0 = some (0, 22) := by kernel_rfl
theorem ft_23_0 : ftyT Try.prog 23 0 = 22 := by kernel_rfl
theorem fl_23_1 : fldT Try.prog 23 1 = some (1, 22) := by kernel_rfl
theorem ft_23_1 : ftyT Try.prog 23 1 = 22 := by kernel_rfl
theorem nl_24 : nlT Try.prog 24 = 0 := by kernel_rfl
theorem ag_24 : aggT Try.prog 24 = some true := by kernel_rfl
theorem sz_24 : sizeT Try.prog 24 = some 2 := by kernel_rfl
theorem ze_24 : zeroT Try.prog 24 = some [.nl 5, .nl 5] := by kernel_rfl
theorem pl_24 : plsT Try.prog 24 = some [(0, 1), (1, 1)] := by kernel_rfl
theorem fl_24_0 : fldT Try.prog 24 0 = some (0, 22) := by kernel_rfl
theorem ft_24_0 : ftyT Try.prog 24 0 = 22 := by kernel_rfl
theorem fl_24_1 : fldT Try.prog 24 1 = some (1, 22) := by kernel_rfl
theorem ft_24_1 : ftyT Try.prog 24 1 = 22 := by kernel_rfl
theorem nl_25 : nlT Try.prog 25 = 0 := by kernel_rfl
theorem ag_25 : aggT Try.prog 25 = some false := by kernel_rfl
theorem sz_25 : sizeT Try.prog 25 = some 1 := by kernel_rfl
theorem ze_25 : zeroT Try.prog 25 = some [.cv .nilFunc] := by kernel_rfl
theorem nl_26 : nlT Try.prog 26 = 0 := by kernel_rfl
theorem ag_26 : aggT Try.prog 26 = some false := by kernel_rfl
theorem sz_26 : sizeT Try.prog 26 = some 1 := by kernel_rfl
theorem ze_26 : zeroT Try.prog 26 = some [.cv .nilFunc] := by kernel_rfl
theorem nl_27 : nlT Try.prog 27 = 5 := by kernel_rfl
theorem ag_27 : aggT Try.prog 27 = some false := by kernel_rfl
theorem sz_27 : sizeT Try.prog 27 = some 1 := by kernel_rfl
theorem el_27 : elT Try.prog 27 = some 37 := by kernel_rfl
theorem by_37_27 : bytesT Try.prog 37 = some 88 := by kernel_rfl
theorem us_27 : u8S Try.prog 27 = false := by kernel_rfl
theorem in_27 : intT Try.prog 27 = none := by kernel_rfl
theorem ze_27 : zeroT Try.prog 27 = some [.nl 5] := by kernel_rfl
theorem nl_28 : nlT Try.prog 28 = 0 := by kernel_rfl
theorem ag_28 : aggT Try.prog 28 = some true := by kernel_rfl
theorem sz_28 : sizeT Try.prog 28 = some 2 := by kernel_rfl
theorem ze_28 : zeroT Try.prog 28 = some [.nl 5, .nl 5] := by kernel_rfl
theorem pl_28 : plsT Try.prog 28 = some [(0, 1), (1, 1)] := by kernel_rfl
theorem fl_28_0 : fldT Try.prog 28 0 = some (0, 27) := by kernel_rfl
theorem ft_28_0 : ftyT Try.prog 28 0 = 27 := by kernel_rfl
theorem fl_28_1 : fldT Try.prog 28 1 = some (1, 27) := by kernel_rfl
theorem ft_28_1 : ftyT Try.prog 28 1 = 27 := by kernel_rfl
theorem nl_29 : nlT Try.prog 29 = 0 := by kernel_rfl
theorem ag_29 : aggT Try.prog 29 = some true := by kernel_rfl
theorem sz_29 : sizeT Try.prog 29 = some 2 := by kernel_rfl
theorem ze_29 : zeroT Try.prog 29 = some [.nl 5, .nl 5] := by kernel_rfl
theorem pl_29 : plsT Try.prog 29 = some [(0, 1), (1, 1)] := by kernel_rfl
theorem fl_29_0 : fldT Try.prog 29 0 = some (0, 27) := by kernel_rfl
theorem ft_29_0 : ftyT Try.prog 29 0 = 27 := by kernel_rfl
theorem fl_29_1 : fldT Try.prog 29 1 = some (1, 27) := by kernel_rfl
theorem ft_29_1 : ftyT Try.prog 29 1 = 27 := by kernel_rfl
theorem nl_30 : nlT Try.prog 30 = 0 := by kernel_rfl
theorem ag_30 : aggT Try.prog 30 = some false := by kernel_rfl
theorem sz_30 : sizeT Try.prog 30 = some 1 := by kernel_rfl
theorem ze_30 : zeroT Try.prog 30 = some [.cv .nilFunc] := by kernel_rfl
theorem nl_31 : nlT Try.prog 31 = 0 := by kernel_rfl
theorem ag_31 : aggT Try.prog 31 = some false := by kernel_rfl
theorem sz_31 : sizeT Try.prog 31 = some 1 := by kernel_rfl
theorem ze_31 : zeroT Try.prog 31 = some [.cv .nilFunc] := by kernel_rfl
theorem nl_32 : nlT Try.prog 32 = 0 := by kernel_rfl
theorem ag_32 : aggT Try.prog 32 = some false := by kernel_rfl
theorem sz_32 : sizeT Try.prog 32 = some 1 := by kernel_rfl
theorem ze_32 : zeroT Try.prog 32 = some [.cv .nilFunc] := by kernel_rfl
theorem nl_33 : nlT Try.prog 33 = 2 := by kernel_rfl
theorem ag_33 : aggT Try.prog 33 = some false := by kernel_rfl
theorem sz_33 : sizeT Try.prog 33 = some 1 := by kernel_rfl
theorem el_33 : elT Try.prog 33 = some 35 := by kernel_rfl
theorem by_35_33 : bytesT Try.prog 35 = some 40 := by kernel_rfl
theorem us_33 : u8S Try.prog 33 = false := by kernel_rfl
theorem in_33 : intT Try.prog 33 = none := by kernel_rfl
theorem ze_33 : zeroT Try.prog 33 = some [.nl 2] := by kernel_rfl
theorem nl_34 : nlT Try.prog 34 = 0 := by kernel_rfl
theorem ag_34 : aggT Try.prog 34 = some true := by kernel_rfl
theorem sz_34 : sizeT Try.prog 34 = some 2 := by kernel_rfl
theorem ze_34 : zeroT Try.prog 34 = some [.t (.str []), .nl 2] := by kernel_rfl
theorem pl_34 : plsT Try.prog 34 = some [(0, 1), (1, 1)] := by kernel_rfl
theorem fl_34_0 : fldT Try.prog 34 0 = some (0, 9) := by kernel_rfl
theorem ft_34_0 : ftyT Try.prog 34 0 = 9 := by kernel_rfl
theorem fl_34_1 : fldT Try.prog 34 1 = some (1, 33) := by kernel_rfl
theorem ft_34_1 : ftyT Try.prog 34 1 = 33 := by kernel_rfl
theorem nl_35 : nlT Try.prog 35 = 0 := by kernel_rfl
theorem ag_35 : aggT Try.prog 35 = some true := by kernel_rfl
theorem sz_35 : sizeT Try.prog 35 = some 2 := by kernel_rfl
theorem ze_35 : zeroT Try.prog 35 = some [.t (.str []), .nl 2] := by kernel_rfl
theorem pl_35 : plsT Try.prog 35 = some [(0, 1), (1, 1)] := by kernel_rfl
theorem fl_35_0 : fldT Try.prog 35 0 = some (0, 9) := by kernel_rfl
theorem ft_35_0 : ftyT Try.prog 35 0 = 9 := by kernel_rfl
theorem fl_35_1 : fldT Try.prog 35 1 = some (1, 33) := by kernel_rfl
theorem ft_35_1 : ftyT Try.prog 35 1 = 33 := by kernel_rfl
theorem nl_36 : nlT Try.prog 36 = 0 := by kernel_rfl
theorem ag_36 : aggT Try.prog 36 = some true := by kernel_rfl
theorem sz_36 : sizeT Try.prog 36 = some 5 := by kernel_rfl
theorem ze_36 : zeroT Try.prog 36 = some [.t (.int .i64 0), .t (.str []), .nl 2, .t (.str []), .nl 5] := by kernel_rfl
theorem pl_36 : plsT Try.prog 36 = some [(0, 1), (1, 2), (3, 1), (4, 1)] := by kernel_rfl
theorem fl_36_0 : fldT Try.prog 36 0 = some (0, 3) := by kernel_rfl
theorem ft_36_0 : ftyT Try.prog 36 0 = 3 := by kernel_rfl
theorem fl_36_1 : fldT Try.prog 36 1 = some (1, 35) := by kernel_rfl
theorem ft_36_1 : ftyT Try.prog 36 1 = 35 := by kernel_rfl
theorem fl_36_2 : fldT Try.prog 36 2 = some (3, 9) := by kernel_rfl
theorem ft_36_2 : ftyT Try.prog 36 2 = 9 := by kernel_rfl
theorem fl_36_3 : fldT Try.prog 36 3 = some (4, 27) := by kernel_rfl
theorem ft_36_3 : ftyT Try.prog 36 3 = 27 := by kernel_rfl
theorem nl_37 : nlT Try.prog 37 = 0 := by kernel_rfl
theorem ag_37 : aggT Try.prog 37 = some true := by kernel_rfl
theorem sz_37 : sizeT Try.prog 37 = some 5 := by kernel_rfl
theorem ze_37 : zeroT Try.prog 37 = some [.t (.int .i64 0), .t (.str []), .nl 2, .t (.str []), .nl 5] := by kernel_rfl
theorem pl_37 : plsT Try.prog 37 = some [(0, 1), (1, 2), (3, 1), (4, 1)] := by kernel_rfl
theorem fl_37_0 : fldT Try.prog 37 0 = some (0, 3) := by kernel_rfl
theorem ft_37_0 : ftyT Try.prog 37 0 = 3 := by kernel_rfl
theorem fl_37_1 : fldT Try.prog 37 1 = some (1, 35) := by kernel_rfl
theorem ft_37_1 : ftyT Try.prog 37 1 = 35 := by kernel_rfl
theorem fl_37_2 : fldT Try.prog 37 2 = some (3, 9) := by kernel_rfl
theorem ft_37_2 : ftyT Try.prog 37 2 = 9 := by kernel_rfl
theorem fl_37_3 : fldT Try.prog 37 3 = some (4, 27) := by kernel_rfl
theorem ft_37_3 : ftyT Try.prog 37 3 = 27 := by kernel_rfl
theorem nl_38 : nlT Try.prog 38 = 0 := by kernel_rfl
theorem nl_39 : nlT Try.prog 39 = 0 := by kernel_rfl
theorem ag_39 : aggT Try.prog 39 = some false := by kernel_rfl
theorem sz_39 : sizeT Try.prog 39 = some 1 := by kernel_rfl
theorem ze_39 : zeroT Try.prog 39 = some [.cv .nilFunc] := by kernel_rfl
theorem nl_40 : nlT Try.prog 40 = 0 := by kernel_rfl
theorem ag_40 : aggT Try.prog 40 = some false := by kernel_rfl
theorem sz_40 : sizeT Try.prog 40 = some 1 := by kernel_rfl
theorem ze_40 : zeroT Try.prog 40 = some [.cv .nilFunc] := by kernel_rfl
theorem nl_41 : nlT Try.prog 41 = 0 := by kernel_rfl
theorem ag_41 : aggT Try.prog 41 = some false := by kernel_rfl
theorem sz_41 : sizeT Try.prog 41 = some 1 := by kernel_rfl
theorem ze_41 : zeroT Try.prog 41 = some [.cv .nilFunc] := by kernel_rfl
theorem nl_42 : nlT Try.prog 42 = 0 := by kernel_rfl
theorem ag_42 : aggT Try.prog 42 = some false := by kernel_rfl
theorem sz_42 : sizeT Try.prog 42 = some 1 := by kernel_rfl
theorem ze_42 : zeroT Try.prog 42 = some [.cv .nilFunc] := by kernel_rfl
theorem nl_43 : nlT Try.prog 43 = 0 := by kernel_rfl
theorem nl_44 : nlT Try.prog 44 = 0 := by kernel_rfl
theorem ag_44 : aggT Try.prog 44 = some false := by kernel_rfl
theorem sz_44 : sizeT Try.prog 44 = some 1 := by kernel_rfl
theorem ze_44 : zeroT Try.prog 44 = some [.cv .nilFunc] := by kernel_rfl
theorem nl_45 : nlT Try.prog 45 = 2 := by kernel_rfl
theorem ag_45 : aggT Try.prog 45 = some false := by kernel_rfl
theorem sz_45 : sizeT Try.prog 45 = some 1 := by kernel_rfl
theorem el_45 : elT Try.prog 45 = some 47 := by kernel_rfl
theorem by_47_45 : bytesT Try.prog 47 = some 40 := by kernel_rfl
theorem us_45 : u8S Try.prog 45 = false := by kernel_rfl
theorem in_45 : intT Try.prog 45 = none := by kernel_rfl
theorem ze_45 : zeroT Try.prog 45 = some [.nl 2] := by kernel_rfl
theorem nl_46 : nlT Try.prog 46 = 0 := by kernel_rfl
theorem ag_46 : aggT Try.prog 46 = some true := by kernel_rfl
theorem sz_46 : sizeT Try.prog 46 = some 2 := by kernel_rfl
theorem ze_46 : zeroT Try.prog 46 = some [.t (.str []), .nl 2] := by kernel_rfl
theorem pl_46 : plsT Try.prog 46 = some [(0, 1), (1, 1)] := by kernel_rfl
theorem fl_46_0 : fldT Try.prog 46 0 = some (0, 9) := by kernel_rfl
theorem ft_46_0 : ftyT Try.prog 46 0 = 9 := by kernel_rfl
theorem fl_46_1 : fldT Try.prog 46 1 = some (1, 45) := by kernel_rfl
theorem ft_46_1 : ftyT Try.prog 46 1 = 45 := by kernel_rfl
theorem nl_47 : nlT Try.prog 47 = 0 := by kernel_rfl
theorem ag_47 : aggT Try.prog 47 = some true := by kernel_rfl
theorem sz_47 : sizeT Try.prog 47 = some 2 := by kernel_rfl
theorem ze_47 : zeroT Try.prog 47 = some [.t (.str []), .nl 2] := by kernel_rfl
theorem pl_47 : plsT Try.prog 47 = some [(0, 1), (1, 1)] := by kernel_rfl
theorem fl_47_0 : fldT Try.prog 47 0 = some (0, 9) := by kernel_rfl
theorem ft_47_0 : ftyT Try.prog 47 0 = 9 := by kernel_rfl
theorem fl_47_1 : fldT Try.prog 47 1 = some (1, 45) := by kernel_rfl
theorem ft_47_1 : ftyT Try.prog 47 1 = 45 := by kernel_rfl
theorem nl_48 : nlT Try.prog 48 = 0 := by kernel_rfl
theorem ag_48 : aggT Try.prog 48 = some true := by kernel_rfl
theorem sz_48 : sizeT Try.prog 48 = some 5 := by kernel_rfl
theorem ze_48 : zeroT Try.prog 48 = some [.t (.int .i64 0), .t (.str []), .nl 2, .t (.str []), .nl 5] := by kernel_rfl
theorem pl_48 : plsT Try.prog 48 = some [(0, 1), (1, 2), (3, 1), (4, 1)] := by kernel_rfl
theorem fl_48_0 : fldT Try.prog 48 0 = some (0, 3) := by kernel_rfl
theorem ft_48_0 : ftyT Try.prog 48 0 = 3 := by kernel_rfl
theorem fl_48_1 : fldT Try.prog 48 1 = some (1, 47) := by kernel_rfl
theorem ft_48_1 : ftyT Try.prog 48 1 = 47 := by kernel_rfl
theorem fl_48_2 : fldT Try.prog 48 2 = some (3, 9) := by kernel_rfl
theorem ft_48_2 : ftyT Try.prog 48 2 = 9 := by kernel_rfl
theorem fl_48_3 : fldT Try.prog 48 3 = some (4, 22) := by kernel_rfl
theorem ft_48_3 : ftyT Try.prog 48 3 = 22 := by kernel_rfl
theorem nl_49 : nlT Try.prog 49 = 0 := by kernel_rfl
theorem ag_49 : aggT Try.prog 49 = some true := by kernel_rfl
theorem sz_49 : sizeT Try.prog 49 = some 5 := by kernel_rfl
theorem ze_49 : zeroT Try.prog 49 = some [.t (.int .i64 0), .t (.str []), .nl 2, .t (.str []), .nl 5] := by kernel_rfl
theorem pl_49 : plsT Try.prog 49 = some [(0, 1), (1, 2), (3, 1), (4, 1)] := by kernel_rfl
theorem fl_49_0 : fldT Try.prog 49 0 = some (0, 3) := by kernel_rfl
theorem ft_49_0 : ftyT Try.prog 49 0 = 3 := by kernel_rfl
theorem fl_49_1 : fldT Try.prog 49 1 = some (1, 47) := by kernel_rfl
theorem ft_49_1 : ftyT Try.prog 49 1 = 47 := by kernel_rfl
theorem fl_49_2 : fldT Try.prog 49 2 = some (3, 9) := by kernel_rfl
theorem ft_49_2 : ftyT Try.prog 49 2 = 9 := by kernel_rfl
theorem fl_49_3 : fldT Try.prog 49 3 = some (4, 22) := by kernel_rfl
theorem ft_49_3 : ftyT Try.prog 49 3 = 22 := by kernel_rfl
theorem nl_50 : nlT Try.prog 50 = 0 := by kernel_rfl
theorem ag_50 : aggT Try.prog 50 = some false := by kernel_rfl
theorem sz_50 : sizeT Try.prog 50 = some 1 := by kernel_rfl
theorem ze_50 : zeroT Try.prog 50 = some [.cv .nilFunc] := by kernel_rfl
theorem nl_51 : nlT Try.prog 51 = 0 := by kernel_rfl
theorem ag_51 : aggT Try.prog 51 = some false := by kernel_rfl
theorem sz_51 : sizeT Try.prog 51 = some 1 := by kernel_rfl
theorem ze_51 : zeroT Try.prog 51 = some [.cv .nilFunc] := by kernel_rfl
theorem nl_52 : nlT Try.prog 52 = 0 := by kernel_rfl
theorem ag_52 : aggT Try.prog 52 = some false := by kernel_rfl
theorem sz_52 : sizeT Try.prog 52 = some 1 := by kernel_rfl
theorem ze_52 : zeroT Try.prog 52 = some [.cv .nilFunc] := by kernel_rfl
theorem nl_53 : nlT Try.prog 53 = 0 := by kernel_rfl
theorem ag_53 : aggT Try.prog 53 = some false := by kernel_rfl
theorem sz_53 : sizeT Try.prog 53 = some 1 := by kernel_rfl
theorem ze_53 : zeroT Try.prog 53 = some [.cv .nilFunc] := by kernel_rfl
theorem nl_54 : nlT Try.prog 54 = 0 := by kernel_rfl
theorem ag_54 : aggT Try.prog 54 = some false := by kernel_rfl
theorem sz_54 : sizeT Try.prog 54 = some 1 := by kernel_rfl
theorem ze_54 : zeroT Try.prog 54 = some [.cv .nilFunc] := by kernel_rfl
theorem nl_55 : nlT Try.prog 55 = 0 := by kernel_rfl
theorem ag_55 : aggT Try.prog 55 = some false := by kernel_rfl
theorem sz_55 : sizeT Try.prog 55 = some 1 := by kernel_rfl
theorem ze_55 : zeroT Try.prog 55 = some [.cv .nilFunc] := by kernel_rfl
theorem nl_56 : nlT Try.prog 56 = 0 := by kernel_rfl
theorem ag_56 : aggT Try.prog 56 = some false := by kernel_rfl
theorem sz_56 : sizeT Try.prog 56 = some 1 := by kernel_rfl
theorem ze_56 : zeroT Try.prog 56 = some [.cv .nilFunc] := by kernel_rfl
theorem nl_57 : nlT Try.prog 57 = 0 := by kernel_rfl
theorem ag_57 : aggT Try.prog 57 = some false := by kernel_rfl
theorem sz_57 : sizeT Try.prog 57 = some 1 := by kernel_rfl
theorem ze_57 : zeroT Try.prog 57 = some [.cv .nilFunc] := by kernel_rfl
theorem nl_58 : nlT Try.prog 58 = 0 := by kernel_rfl
theorem ag_58 : aggT Try.prog 58 = some false := by kernel_rfl
theorem sz_58 : sizeT Try.prog 58 = some 1 := by kernel_rfl
theorem ze_58 : zeroT Try.prog 58 = some [.cv .nilFunc] := by kernel_rfl
theorem nl_59 : nlT Try.prog 59 = 0 := by kernel_rfl
theorem ag_59 : aggT Try.prog 59 = some false := by kernel_rfl
theorem sz_59 : sizeT Try.prog 59 = some 1 := by kernel_rfl
theorem ze_59 : zeroT Try.prog 59 = some [.cv .nilFunc] := by kernel_rfl
theorem nl_60 : nlT Try.prog 60 = 0 := by kernel_rfl
theorem ag_60 : aggT Try.prog 60 = some false := by kernel_rfl
theorem sz_60 : sizeT Try.prog 60 = some 1 := by kernel_rfl
theorem ze_60 : zeroT Try.prog 60 = some [.cv .nilFunc] := by kernel_rfl
theorem nl_61 : nlT Try.prog 61 = 0 := by kernel_rfl
theorem ag_61 : aggT Try.prog 61 = some false := by kernel_rfl
theorem sz_61 : sizeT Try.prog 61 = some 1 := by kernel_rfl
theorem ze_61 : zeroT Try.prog 61 = some [.cv .nilFunc] := by kernel_rfl
theorem nl_62 : nlT Try.prog 62 = 0 := by kernel_rfl
theorem ag_62 : aggT Try.prog 62 = some false := by kernel_rfl
theorem sz_62 : sizeT Try.prog 62 = some 1 := by kernel_rfl
theorem ze_62 : zeroT Try.prog 62 = some [.cv .nilFunc] := by kernel_rfl
theorem nl_63 : nlT Try.prog 63 = 0 := by kernel_rfl
theorem ag_63 : aggT Try.prog 63 = some false := by kernel_rfl
theorem sz_63 : sizeT Try.prog 63 = some 1 := by kernel_rfl
theorem ze_63 : zeroT Try.prog 63 = some [.cv .nilFunc] := by kernel_rfl
theorem nl_64 : nlT Try.prog 64 = 0 := by kernel_rfl
theorem ag_64 : aggT Try.prog 64 = some false := by kernel_rfl
theorem sz_64 : sizeT Try.prog 64 = some 1 := by kernel_rfl
theorem ze_64 : zeroT Try.prog 64 = some [.cv .nilFunc] := by kernel_rfl
theorem nl_65 : nlT Try.prog 65 = 0 := by kernel_rfl
theorem ag_65 : aggT Try.prog 65 = some false := by kernel_rfl
theorem sz_65 : sizeT Try.prog 65 = some 1 := by kernel_rfl
theorem ze_65 : zeroT Try.prog 65 = some [.cv .nilFunc] := by kernel_rfl
theorem nl_66 : nlT Try.prog 66 = 0 := by kernel_rfl
theorem ag_66 : aggT Try.prog 66 = some false := by kernel_rfl
theorem sz_66 : sizeT Try.prog 66 = some 1 := by kernel_rfl
theorem ze_66 : zeroT Try.prog 66 = some [.cv .nilFunc] := by kernel_rfl
theorem nl_67 : nlT Try.prog 67 = 0 := by kernel_rfl
theorem ag_67 : aggT Try.prog 67 = some false := by kernel_rfl
theorem sz_67 : sizeT Try.prog 67 = some 1 := by kernel_rfl
theorem ze_67 : zeroT Try.prog 67 = some [.cv .nilFunc] := by kernel_rfl
theorem nl_68 : nlT Try.prog 68 = 0 := by kernel_rfl
theorem ag_68 : aggT Try.prog 68 = some false := by kernel_rfl
theorem sz_68 : sizeT Try.prog 68 = some 1 := by kernel_rfl
theorem ze_68 : zeroT Try.prog 68 = some [.cv .nilFunc] := by kernel_rfl
theorem nl_69 : nlT Try.prog 69 = 0 := by kernel_rfl
theorem ag_69 : aggT Try.prog 69 = some false := by kernel_rfl
theorem sz_69 : sizeT Try.prog 69 = some 1 := by kernel_rfl
theorem ze_69 : zeroT Try.prog 69 = some [.cv .nilFunc] := by kernel_rfl
theorem nl_70 : nlT Try.prog 70 = 0 := by kernel_rfl
theorem ag_70 : aggT Try.prog 70 = some false := by kernel_rfl
theorem sz_70 : sizeT Try.prog 70 = some 1 := by kernel_rfl
theorem ze_70 : zeroT Try.prog 70 = some [.cv .nilFunc] := by kernel_rfl
theorem nl_71 : nlT Try.prog 71 = 0 := by kernel_rfl
theorem ag_71 : aggT Try.prog 71 = some false := by kernel_rfl
theorem sz_71 : sizeT Try.prog 71 = some 1 := by kernel_rfl
theorem ze_71 : zeroT Try.prog 71 = some [.cv .nilFunc] := by kernel_rfl
theorem nl_72 : nlT Try.prog 72 = 0 := by kernel_rfl
theorem ag_72 : aggT Try.prog 72 = some false := by kernel_rfl
theorem sz_72 : sizeT Try.prog 72 = some 1 := by kernel_rfl
theorem ze_72 : zeroT Try.prog 72 = some [.cv .nilFunc] := by kernel_rfl
theorem nl_73 : nlT Try.prog 73 = 0 := by kernel_rfl
theorem ag_73 : aggT Try.prog 73 = some false := by kernel_rfl
theorem sz_73 : sizeT Try.prog 73 = some 1 := by kernel_rfl
theorem ze_73 : zeroT Try.prog 73 = some [.cv .nilFunc] := by kernel_rfl
theorem nl_74 : nlT Try.prog 74 = 0 := by kernel_rfl
theorem ag_74 : aggT Try.prog 74 = some false := by kernel_rfl
theorem sz_74 : sizeT Try.prog 74 = some 1 := by kernel_rfl
theorem ze_74 : zeroT Try.prog 74 = some [.cv .nilFunc] := by kernel_rfl
theorem nl_75 : nlT Try.prog 75 = 0 := by kernel_rfl
theorem ag_75 : aggT Try.prog 75 = some false := by kernel_rfl
theorem sz_75 : sizeT Try.prog 75 = some 1 := by kernel_rfl
theorem ze_75 : zeroT Try.prog 75 = some [.cv .nilFunc] := by kernel_rfl
theorem nl_76 : nlT Try.prog 76 = 0 := by kernel_rfl
theorem ag_76 : aggT Try.prog 76 = some false := by kernel_rfl
theorem sz_76 : sizeT Try.prog 76 = some 1 := by kernel_rfl
theorem ze_76 : zeroT Try.prog 76 = some [.cv .nilFunc] := by kernel_rfl
theorem nl_77 : nlT Try.prog 77 = 0 := by kernel_rfl
theorem ag_77 : aggT Try.prog 77 = some false := by kernel_rfl
theorem sz_77 : sizeT Try.prog 77 = some 1 := by kernel_rfl
theorem ze_77 : zeroT Try.prog 77 = some [.cv .nilFunc] := by kernel_rfl
theorem nl_78 : nlT Try.prog 78 = 0 := by kernel_rfl
theorem ag_78 : aggT Try.prog 78 = some false := by kernel_rfl
theorem sz_78 : sizeT Try.prog 78 = some 1 := by kernel_rfl
theorem ze_78 : zeroT Try.prog 78 = some [.cv .nilFunc] := by kernel_rfl
theorem nl_79 : nlT Try.prog 79 = 0 := by kernel_rfl
theorem ag_79 : aggT Try.prog 79 = some false := by kernel_rfl
theorem sz_79 : sizeT Try.prog 79 = some 1 := by kernel_rfl
theorem ze_79 : zeroT Try.prog 79 = some [.cv .nilFunc] := by kernel_rfl
theorem nl_80 : nlT Try.prog 80 = 0 := by kernel_rfl
theorem ag_80 : aggT Try.prog 80 = some false := by kernel_rfl
theorem sz_80 : sizeT Try.prog 80 = some 1 := by kernel_rfl
theorem ze_80 : zeroT Try.prog 80 = some [.cv .nilFunc] := by kernel_rfl
theorem nl_81 : nlT Try.prog 81 = 1 := by kernel_rfl
theorem ag_81 : aggT Try.prog 81 = some false := by kernel_rfl
theorem sz_81 : sizeT Try.prog 81 = some 1 := by kernel_rfl
theorem el_81 : elT Try.prog 81 = some 9 := by kernel_rfl
theorem by_9_81 : bytesT Try.prog 9 = some 16 := by kernel_rfl
theorem us_81 : u8S Try.prog 81 = false := by kernel_rfl
theorem in_81 : intT Try.prog 81 = none := by kernel_rfl
theorem ze_81 : zeroT Try.prog 81 = some [.nl 1] := by kernel_rfl
theorem nl_82 : nlT Try.prog 82 = 0 := by kernel_rfl
theorem ag_82 : aggT Try.prog 82 = some false := by kernel_rfl
theorem sz_82 : sizeT Try.prog 82 = some 1 := by kernel_rfl
theorem ze_82 : zeroT Try.prog 82 = some [.cv .nilFunc] := by kernel_rfl
theorem nl_83 : nlT Try.prog 83 = 0 := by kernel_rfl
theorem ag_83 : aggT Try.prog 83 = some false := by kernel_rfl
theorem sz_83 : sizeT Try.prog 83 = some 1 := by kernel_rfl
theorem ze_83 : zeroT Try.prog 83 = some [.cv .nilFunc] := by kernel_rfl
theorem nl_84 : nlT Try.prog 84 = 0 := by kernel_rfl
theorem ag_84 : aggT Try.prog 84 = some false := by kernel_rfl
theorem sz_84 : sizeT Try.prog 84 = some 1 := by kernel_rfl
theorem ze_84 : zeroT Try.prog 84 = some [.cv .nilFunc] := by kernel_rfl
theorem nl_85 : nlT Try.prog 85 = 0 := by kernel_rfl
theorem ag_85 : aggT Try.prog 85 = some false := by kernel_rfl
theorem sz_85 : sizeT Try.prog 85 = some 1 := by kernel_rfl
theorem ze_85 : zeroT Try.prog 85 = some [.cv .nilFunc] := by kernel_rfl
theorem nl_86 : nlT Try.prog 86 = 0 := by kernel_rfl
theorem ag_86 : aggT Try.prog 86 = some false := by kernel_rfl
theorem sz_86 : sizeT Try.prog 86 = some 1 := by kernel_rfl
theorem ze_86 : zeroT Try.prog 86 = some [.cv .nilFunc] := by kernel_rfl
theorem nl_87 : nlT Try.prog 87 = 0 := by kernel_rfl
theorem ag_87 : aggT Try.prog 87 = some false := by kernel_rfl
theorem sz_87 : sizeT Try.prog 87 = some 1 := by kernel_rfl
theorem ze_87 : zeroT Try.prog 87 = some [.cv .nilFunc] := by kernel_rfl
theorem nl_88 : nlT Try.prog 88 = 0 := by kernel_rfl
theorem ag_88 : aggT Try.prog 88 = some false := by kernel_rfl
theorem sz_88 : sizeT Try.prog 88 = some 1 := by kernel_rfl
theorem ze_88 : zeroT Try.prog 88 = some [.cv .nilFunc] := by kernel_rfl
theorem nl_89 : nlT Try.prog 89 = 0 := by kernel_rfl
theorem ag_89 : aggT Try.prog 89 = some false := by kernel_rfl
theorem sz_89 : sizeT Try.prog 89 = some 1 := by kernel_rfl
theorem ze_89 : zeroT Try.prog 89 = some [.cv .nilFunc] := by kernel_rfl
theorem nl_90 : nlT Try.prog 90 = 0 := by kernel_rfl
theorem ag_90 : aggT Try.prog 90 = some false := by kernel_rfl
theorem sz_90 : sizeT Try.prog 90 = some 1 := by kernel_rfl
theorem ze_90 : zeroT Try.prog 90 = some [.cv .nilFunc] := by kernel_rfl
theorem nl_91 : nlT Try.prog 91 = 0 := by kernel_rfl
theorem ag_91 : aggT Try.prog 91 = some false := by kernel_rfl
theorem sz_91 : sizeT Try.prog 91 = some 1 := by kernel_rfl
theorem ze_91 : zeroT Try.prog 91 = some [.cv .nilFunc] := by kernel_rfl
theorem nl_92 : nlT Try.prog 92 = 0 := by kernel_rfl
theorem ag_92 : aggT Try.prog 92 = some false := by kernel_rfl
theorem sz_92 : sizeT Try.prog 92 = some 1 := by kernel_rfl
theorem ze_92 : zeroT Try.prog 92 = some [.cv .nilFunc] := by kernel_rfl
theorem nl_93 : nlT Try.prog 93 = 1 := by kernel_rfl
theorem ag_93 : aggT Try.prog 93 = some false := by kernel_rfl
theorem sz_93 : sizeT Try.prog 93 = some 1 := by kernel_rfl
theorem el_93 : elT Try.prog 93 = some 5 := by kernel_rfl
theorem by_5_93 : bytesT Try.prog 5 = some 1 := by kernel_rfl
theorem us_93 : u8S Try.prog 93 = true := by kernel_rfl
theorem in_93 : intT Try.prog 93 = none := by kernel_rfl
theorem ze_93 : zeroT Try.prog 93 = some [.nl 1] := by kernel_rfl
theorem nl_94 : nlT Try.prog 94 = 0 := by kernel_rfl
theorem ag_94 : aggT Try.prog 94 = some false := by kernel_rfl
theorem sz_94 : sizeT Try.prog 94 = some 1 := by kernel_rfl
theorem ze_94 : zeroT Try.prog 94 = some [.cv .nilFunc] := by kernel_rfl
theorem nl_95 : nlT Try.prog 95 = 0 := by kernel_rfl
theorem ag_95 : aggT Try.prog 95 = some false := by kernel_rfl
theorem sz_95 : sizeT Try.prog 95 = some 1 := by kernel_rfl
theorem ze_95 : zeroT Try.prog 95 = some [.cv (.pointer none)] := by kernel_rfl
theorem nl_96 : nlT Try.prog 96 = 0 := by kernel_rfl
theorem ag_96 : aggT Try.prog 96 = some true := by kernel_rfl
theorem sz_96 : sizeT Try.prog 96 = some 2 := by kernel_rfl
theorem ze_96 : zeroT Try.prog 96 = some [.cv (.pointer none), .nl 1] := by kernel_rfl
theorem pl_96 : plsT Try.prog 96 = some [(0, 1), (1, 1)] := by kernel_rfl
theorem fl_96_0 : fldT Try.prog 96 0 = some (0, 95) := by kernel_rfl
theorem ft_96_0 : ftyT Try.prog 96 0 = 95 := by kernel_rfl
theorem fl_96_1 : fldT Try.prog 96 1 = some (1, 93) := by kernel_rfl
theorem ft_96_1 : ftyT Try.prog 96 1 = 93 := by kernel_rfl
theorem nl_97 : nlT Try.prog 97 = 0 := by kernel_rfl
theorem ag_97 : aggT Try.prog 97 = some true := by kernel_rfl
theorem sz_97 : sizeT Try.prog 97 = some 2 := by kernel_rfl
theorem ze_97 : zeroT Try.prog 97 = some [.cv (.pointer none), .nl 1] := by kernel_rfl
theorem pl_97 : plsT Try.prog 97 = some [(0, 1), (1, 1)] := by kernel_rfl
theorem fl_97_0 : fldT Try.prog 97 0 = some (0, 95) := by kernel_rfl
theorem ft_97_0 : ftyT Try.prog 97 0 = 95 := by kernel_rfl
theorem fl_97_1 : fldT Try.prog 97 1 = some (1, 93) := by kernel_rfl
theorem ft_97_1 : ftyT Try.prog 97 1 = 93 := by kernel_rfl
theorem nl_98 : nlT Try.prog 98 = 0 := by kernel_rfl
theorem ag_98 : aggT Try.prog 98 = some false := by kernel_rfl
theorem sz_98 : sizeT Try.prog 98 = some 1 := by kernel_rfl
theorem ze_98 : zeroT Try.prog 98 = some [.cv .nilFunc] := by kernel_rfl
theorem nl_99 : nlT Try.prog 99 = 0 := by kernel_rfl
theorem ag_99 : aggT Try.prog 99 = some false := by kernel_rfl
theorem sz_99 : sizeT Try.prog 99 = some 1 := by kernel_rfl
theorem ze_99 : zeroT Try.prog 99 = some [.cv .nilIface] := by kernel_rfl
theorem nl_100 : nlT Try.prog 100 = 0 := by kernel_rfl
theorem ag_100 : aggT Try.prog 100 = some false := by kernel_rfl
theorem sz_100 : sizeT Try.prog 100 = some 1 := by kernel_rfl
theorem ze_100 : zeroT Try.prog 100 = some [.cv .nilIface] := by kernel_rfl
theorem nl_101 : nlT Try.prog 101 = 0 := by kernel_rfl
theorem nl_102 : nlT Try.prog 102 = 0 := by kernel_rfl
theorem ag_102 : aggT Try.prog 102 = some false := by kernel_rfl
theorem sz_102 : sizeT Try.prog 102 = some 1 := by kernel_rfl
theorem ze_102 : zeroT Try.prog 102 = some [.cv .nilFunc] := by kernel_rfl
theorem nl_103 : nlT Try.prog 103 = 0 := by kernel_rfl
theorem ag_103 : aggT Try.prog 103 = some false := by kernel_rfl
theorem sz_103 : sizeT Try.prog 103 = some 1 := by kernel_rfl
theorem ze_103 : zeroT Try.prog 103 = some [.cv .nilFunc] := by kernel_rfl
theorem nl_104 : nlT Try.prog 104 = 0 := by kernel_rfl
theorem ag_104 : aggT Try.prog 104 = some false := by kernel_rfl
theorem sz_104 : sizeT Try.prog 104 = some 1 := by kernel_rfl
theorem ze_104 : zeroT Try.prog 104 = some [.cv .nilFunc] := by kernel_rfl
theorem nl_105 : nlT Try.prog 105 = 0 := by kernel_rfl
theorem ag_105 : aggT Try.prog 105 = some false := by kernel_rfl
theorem sz_105 : sizeT Try.prog 105 = some 1 := by kernel_rfl
theorem ze_105 : zeroT Try.prog 105 = some [.cv .nilFunc] := by kernel_rfl
theorem nl_106 : nlT Try.prog 106 = 0 := by kernel_rfl
theorem ag_106 : aggT Try.prog 106 = some false := by kernel_rfl
theorem sz_106 : sizeT Try.prog 106 = some 1 := by kernel_rfl
theorem ze_106 : zeroT Try.prog 106 = some [.cv .nilFunc] := by kernel_rfl
theorem nl_107 : nlT Try.prog 107 = 0 := by kernel_rfl
theorem ag_107 : aggT Try.prog 107 = some false := by kernel_rfl
theorem sz_107 : sizeT Try.prog 107 = some 1 := by kernel_rfl
theorem ze_107 : zeroT Try.prog 107 = some [.cv (.map none)] := by kernel_rfl
theorem nl_108 : nlT Try.prog 108 = 0 := by kernel_rfl
theorem ag_108 : aggT Try.prog 108 = some false := by kernel_rfl
theorem sz_108 : sizeT Try.prog 108 = some 1 := by kernel_rfl
theorem ze_108 : zeroT Try.prog 108 = some [.cv .nilFunc] := by kernel_rfl
theorem nl_109 : nlT Try.prog 109 = 0 := by kernel_rfl
theorem ag_109 : aggT Try.prog 109 = some false := by kernel_rfl
theorem sz_109 : sizeT Try.prog 109 = some 1 := by kernel_rfl
theorem ze_109 : zeroT Try.prog 109 = some [.cv (.pointer none)] := by kernel_rfl
theorem nl_110 : nlT Try.prog 110 = 0 := by kernel_rfl
theorem ag_110 : aggT Try.prog 110 = some false := by kernel_rfl
theorem sz_110 : sizeT Try.prog 110 = some 1 := by kernel_rfl
theorem ze_110 : zeroT Try.prog 110 = some [.cv .nilFunc] := by kernel_rfl
theorem nl_111 : nlT Try.prog 111 = 0 := by kernel_rfl
theorem ag_111 : aggT Try.prog 111 = some false := by kernel_rfl
theorem sz_111 : sizeT Try.prog 111 = some 1 := by kernel_rfl
theorem ze_111 : zeroT Try.prog 111 = some [.cv .nilFunc] := by kernel_rfl
theorem nl_112 : nlT Try.prog 112 = 0 := by kernel_rfl
theorem ag_112 : aggT Try.prog 112 = some false := by kernel_rfl
theorem sz_112 : sizeT Try.prog 112 = some 1 := by kernel_rfl
theorem ze_112 : zeroT Try.prog 112 = some [.cv .nilFunc] := by kernel_rfl
theorem nl_113 : nlT Try.prog 113 = 0 := by kernel_rfl
theorem ag_113 : aggT Try.prog 113 = some false := by kernel_rfl
theorem sz_113 : sizeT Try.prog 113 = some 1 := by kernel_rfl
theorem ze_113 : zeroT Try.prog 113 = some [.cv .nilFunc] := by kernel_rfl
theorem nl_114 : nlT Try.prog 114 = 0 := by kernel_rfl
theorem ag_114 : aggT Try.prog 114 = some false := by kernel_rfl
theorem sz_114 : sizeT Try.prog 114 = some 1 := by kernel_rfl
theorem ze_114 : zeroT Try.prog 114 = some [.cv .nilFunc] := by kernel_rfl
theorem nl_115 : nlT Try.prog 115 = 0 := by kernel_rfl
theorem ag_115 : aggT Try.prog 115 = some false := by kernel_rfl
theorem sz_115 : sizeT Try.prog 115 = some 1 := by kernel_rfl
theorem ze_115 : zeroT Try.prog 115 = some [.cv .nilFunc] := by kernel_rfl
theorem nl_116 : nlT Try.prog 116 = 0 := by kernel_rfl
theorem ag_116 : aggT Try.prog 116 = some false := by kernel_rfl
theorem sz_116 : sizeT Try.prog 116 = some 1 := by kernel_rfl
theorem nl_117 : nlT Try.prog 117 = 0 := by kernel_rfl
theorem ag_117 : aggT Try.prog 117 = some false := by kernel_rfl
theorem sz_117 : sizeT Try.prog 117 = some 1 := by kernel_rfl
theorem ze_117 : zeroT Try.prog 117 = some [.cv .nilFunc] := by kernel_rfl
theorem nl_118 : nlT Try.prog 118 = 0 := by kernel_rfl
theorem ag_118 : aggT Try.prog 118 = some false := by kernel_rfl
theorem sz_118 : sizeT Try.prog 118 = some 1 := by kernel_rfl
theorem ze_118 : zeroT Try.prog 118 = some [.cv .nilFunc] := by kernel_rfl
theorem nl_119 : nlT Try.prog 119 = 0 := by kernel_rfl
theorem ag_119 : aggT Try.prog 119 = some false := by kernel_rfl
theorem sz_119 : sizeT Try.prog 119 = some 1 := by kernel_rfl
theorem ze_119 : zeroT Try.prog 119 = some [.cv .nilFunc] := by kernel_rfl
theorem nl_120 : nlT Try.prog 120 = 0 := by kernel_rfl
theorem ag_120 : aggT Try.prog 120 = some false := by kernel_rfl
theorem sz_120 : sizeT Try.prog 120 = some 1 := by kernel_rfl
theorem ze_120 : zeroT Try.prog 120 = some [.cv .nilFunc] := by kernel_rfl
theorem nl_121 : nlT Try.prog 121 = 0 := by kernel_rfl
theorem ag_121 : aggT Try.prog 121 = some false := by kernel_rfl
theorem sz_121 : sizeT Try.prog 121 = some 1 := by kernel_rfl
theorem ze_121 : zeroT Try.prog 121 = some [.cv .nilFunc] := by kernel_rfl
theorem nl_122 : nlT Try.prog 122 = 0 := by kernel_rfl
theorem ag_122 : aggT Try.prog 122 = some false := by kernel_rfl
theorem sz_122 : sizeT Try.prog 122 = some 1 := by kernel_rfl
theorem ze_122 : zeroT Try.prog 122 = some [.cv .nilFunc] := by kernel_rfl
theorem nl_123 : nlT Try.prog 123 = 0 := by kernel_rfl
theorem ag_123 : aggT Try.prog 123 = some true := by kernel_rfl
theorem sz_123 : sizeT Try.prog 123 = some 4 := by kernel_rfl
theorem ze_123 : zeroT Try.prog 123 = some [.cv (.pointer none), .cv (.pointer none), .cv (.pointer none), .t (.str [])] := by kernel_rfl
theorem pl_123 : plsT Try.prog 123 = some [(0, 1), (1, 1), (2, 1), (3, 1)] := by kernel_rfl
theorem fl_123_0 : fldT Try.prog 123 0 = some (0, 17) := by kernel_rfl
theorem ft_123_0 : ftyT Try.prog 123 0 = 17 := by kernel_rfl
theorem fl_123_1 : fldT Try.prog 123 1 = some (1, 17) := by kernel_rfl
theorem ft_123_1 : ftyT Try.prog 123 1 = 17 := by kernel_rfl
theorem fl_123_2 : fldT Try.prog 123 2 = some (2, 17) := by kernel_rfl
theorem ft_123_2 : ftyT Try.prog 123 2 = 17 := by kernel_rfl
theorem fl_123_3 : fldT Try.prog 123 3 = some (3, 9) := by kernel_rfl
theorem ft_123_3 : ftyT Try.prog 123 3 = 9 := by kernel_rfl
theorem nl_124 : nlT Try.prog 124 = 0 := by kernel_rfl
theorem ag_124 : aggT Try.prog 124 = some true := by kernel_rfl
theorem sz_124 : sizeT Try.prog 124 = some 4 := by kernel_rfl
theorem ze_124 : zeroT Try.prog 124 = some [.cv (.pointer none), .cv (.pointer none), .cv (.pointer none), .t (.str [])] := by kernel_rfl
theorem pl_124 : plsT Try.prog 124 = some [(0, 1), (1, 1), (2, 1), (3, 1)] := by kernel_rfl
theorem fl_124_0 : fldT Try.prog 124 0 = some (0, 17) := by kernel_rfl
theorem ft_124_0 : ftyT Try.prog 124 0 = 17 := by kernel_rfl
theorem fl_124_1 : fldT Try.prog 124 1 = some (1, 17) := by kernel_rfl
theorem ft_124_1 : ftyT Try.prog 124 1 = 17 := by kernel_rfl
theorem fl_124_2 : fldT Try.prog 124 2 = some (2, 17) := by kernel_rfl
theorem ft_124_2 : ftyT Try.prog 124 2 = 17 := by kernel_rfl
theorem fl_124_3 : fldT Try.prog 124 3 = some (3, 9) := by kernel_rfl
theorem ft_124_3 : ftyT Try.prog 124 3 = 9 := by kernel_rfl
theorem nl_125 : nlT Try.prog 125 = 0 := by kernel_rfl
theorem ag_125 : aggT Try.prog 125 = some true := by kernel_rfl
theorem sz_125 : sizeT Try.prog 125 = some 0 := by kernel_rfl
theorem nl_126 : nlT Try.prog 126 = 0 := by kernel_rfl
theorem ag_126 : aggT Try.prog 126 = some true := by kernel_rfl
theorem sz_126 : sizeT Try.prog 126 = some 0 := by kernel_rfl
theorem pl_126 : plsT Try.prog 126 = some [(0, 0)] := by kernel_rfl
theorem fl_126_0 : fldT Try.prog 126 0 = some (0, 125) := by kernel_rfl
theorem ft_126_0 : ftyT Try.prog 126 0 = 125 := by kernel_rfl
theorem nl_127 : nlT Try.prog 127 = 0 := by kernel_rfl
theorem ag_127 : aggT Try.prog 127 = some true := by kernel_rfl
theorem sz_127 : sizeT Try.prog 127 = some 0 := by kernel_rfl
theorem pl_127 : plsT Try.prog 127 = some [(0, 0)] := by kernel_rfl
theorem fl_127_0 : fldT Try.prog 127 0 = some (0, 125) := by kernel_rfl
theorem ft_127_0 : ftyT Try.prog 127 0 = 125 := by kernel_rfl
theorem nl_128 : nlT Try.prog 128 = 0 := by kernel_rfl
theorem ag_128 : aggT Try.prog 128 = some false := by kernel_rfl
theorem sz_128 : sizeT Try.prog 128 = some 1 := by kernel_rfl
theorem ze_128 : zeroT Try.prog 128 = some [.cv .nilFunc] := by kernel_rfl
theorem nl_129 : nlT Try.prog 129 = 0 := by kernel_rfl
theorem ag_129 : aggT Try.prog 129 = some false := by kernel_rfl
theorem sz_129 : sizeT Try.prog 129 = some 1 := by kernel_rfl
theorem in_129 : intT Try.prog 129 = some .u32 := by kernel_rfl
theorem ze_129 : zeroT Try.prog 129 = some [.t (.int .u32 0)] := by kernel_rfl
theorem nl_130 : nlT Try.prog 130 = 0 := by kernel_rfl
theorem ag_130 : aggT Try.prog 130 = some false := by kernel_rfl
theorem sz_130 : sizeT Try.prog 130 = some 1 := by kernel_rfl
theorem in_130 : intT Try.prog 130 = some .u8 := by kernel_rfl
theorem ze_130 : zeroT Try.prog 130 = some [.t (.int .u8 0)] := by kernel_rfl
theorem nl_131 : nlT Try.prog 131 = 0 := by kernel_rfl
theorem ag_131 : aggT Try.prog 131 = some false := by kernel_rfl
theorem sz_131 : sizeT Try.prog 131 = some 1 := by kernel_rfl
theorem in_131 : intT Try.prog 131 = some .u8 := by kernel_rfl
theorem ze_131 : zeroT Try.prog 131 = some [.t (.int .u8 0)] := by kernel_rfl
theorem nl_132 : nlT Try.prog 132 = 0 := by kernel_rfl
theorem ag_132 : aggT Try.prog 132 = some false := by kernel_rfl
theorem sz_132 : sizeT Try.prog 132 = some 1 := by kernel_rfl
theorem ze_132 : zeroT Try.prog 132 = some [.cv .nilFunc] := by kernel_rfl
theorem nl_133 : nlT Try.prog 133 = 0 := by kernel_rfl
theorem ag_133 : aggT Try.prog 133 = some false := by kernel_rfl
theorem sz_133 : sizeT Try.prog 133 = some 1 := by kernel_rfl
theorem in_133 : intT Try.prog 133 = some .i32 := by kernel_rfl
theorem ze_133 : zeroT Try.prog 133 = some [.t (.int .i32 0)] := by kernel_rfl
theorem nl_134 : nlT Try.prog 134 = 0 := by kernel_rfl
theorem ag_134 : aggT Try.prog 134 = some false := by kernel_rfl
theorem sz_134 : sizeT Try.prog 134 = some 1 := by kernel_rfl
theorem in_134 : intT Try.prog 134 = some .i32 := by kernel_rfl
theorem ze_134 : zeroT Try.prog 134 = some [.t (.int .i32 0)] := by kernel_rfl
theorem nl_135 : nlT Try.prog 135 = 0 := by kernel_rfl
theorem ag_135 : aggT Try.prog 135 = some true := by kernel_rfl
theorem sz_135 : sizeT Try.prog 135 = some 11 := by kernel_rfl
theorem ze_135 : zeroT Try.prog 135 = some [.t (.int .u64 0), .t (.int .u64 0), .t (.int .u32 0), .t (.int .u8 0), .t (.int .u8 0), .t (.int .u8 0), .t (.int .u8 0), .cv .nilFunc, .cv (.pointer none), .t (.int .i32 0), .t (.int .i32 0)] := by kernel_rfl
theorem pl_135 : plsT Try.prog 135 = some [(0, 1), (1, 1), (2, 1), (3, 1), (4, 1), (5, 1), (6, 1), (7, 1), (8, 1), (9, 1), (10, 1)] := by kernel_rfl
theorem fl_135_0 : fldT Try.prog 135 0 = some (0, 12) := by kernel_rfl
theorem ft_135_0 : ftyT Try.prog 135 0 = 12 := by kernel_rfl
theorem fl_135_1 : fldT Try.prog 135 1 = some (1, 12) := by kernel_rfl
theorem ft_135_1 : ftyT Try.prog 135 1 = 12 := by kernel_rfl
theorem fl_135_2 : fldT Try.prog 135 2 = some (2, 129) := by kernel_rfl
theorem ft_135_2 : ftyT Try.prog 135 2 = 129 := by kernel_rfl
theorem fl_135_3 : fldT Try.prog 135 3 = some (3, 130) := by kernel_rfl
theorem ft_135_3 : ftyT Try.prog 135 3 = 130 := by kernel_rfl
theorem fl_135_4 : fldT Try.prog 135 4 = some (4, 5) := by kernel_rfl
theorem ft_135_4 : ftyT Try.prog 135 4 = 5 := by kernel_rfl
theorem fl_135_5 : fldT Try.prog 135 5 = some (5, 5) := by kernel_rfl
theorem ft_135_5 : ftyT Try.prog 135 5 = 5 := by kernel_rfl
theorem fl_135_6 : fldT Try.prog 135 6 = some (6, 131) := by kernel_rfl
theorem ft_135_6 : ftyT Try.prog 135 6 = 131 := by kernel_rfl
theorem fl_135_7 : fldT Try.prog 135 7 = some (7, 132) := by kernel_rfl
theorem ft_135_7 : ftyT Try.prog 135 7 = 132 := by kernel_rfl
theorem fl_135_8 : fldT Try.prog 135 8 = some (8, 109) := by kernel_rfl
theorem ft_135_8 : ftyT Try.prog 135 8 = 109 := by kernel_rfl
theorem fl_135_9 : fldT Try.prog 135 9 = some (9, 133) := by kernel_rfl
theorem ft_135_9 : ftyT Try.prog 135 9 = 133 := by kernel_rfl
theorem fl_135_10 : fldT Try.prog 135 10 = some (10, 134) := by kernel_rfl
theorem ft_135_10 : ftyT Try.prog 135 10 = 134 := by kernel_rfl
theorem nl_136 : nlT Try.prog 136 = 0 := by kernel_rfl
theorem ag_136 : aggT Try.prog 136 = some true := by kernel_rfl
theorem sz_136 : sizeT Try.prog 136 = some 11 := by kernel_rfl
theorem ze_136 : zeroT Try.prog 136 = some [.t (.int .u64 0), .t (.int .u64 0), .t (.int .u32 0), .t (.int .u8 0), .t (.int .u8 0), .t (.int .u8 0), .t (.int .u8 0), .cv .nilFunc, .cv (.pointer none), .t (.int .i32 0), .t (.int .i32 0)] := by kernel_rfl
theorem pl_136 : plsT Try.prog 136 = some [(0, 1), (1, 1), (2, 1), (3, 1), (4, 1), (5, 1), (6, 1), (7, 1), (8, 1), (9, 1), (10, 1)] := by kernel_rfl
theorem fl_136_0 : fldT Try.prog 136 0 = some (0, 12) := by kernel_rfl
theorem ft_136_0 : ftyT Try.prog 136 0 = 12 := by kernel_rfl
theorem fl_136_1 : fldT Try.prog 136 1 = some (1, 12) := by kernel_rfl
theorem ft_136_1 : ftyT Try.prog 136 1 = 12 := by kernel_rfl
theorem fl_136_2 : fldT Try.prog 136 2 = some (2, 129) := by kernel_rfl
theorem ft_136_2 : ftyT Try.prog 136 2 = 129 := by kernel_rfl
theorem fl_136_3 : fldT Try.prog 136 3 = some (3, 130) := by kernel_rfl
theorem ft_136_3 : ftyT Try.prog 136 3 = 130 := by kernel_rfl
theorem fl_136_4 : fldT Try.prog 136 4 = some (4, 5) := by kernel_rfl
theorem ft_136_4 : ftyT Try.prog 136 4 = 5 := by kernel_rfl
theorem fl_136_5 : fldT Try.prog 136 5 = some (5, 5) := by kernel_rfl
theorem ft_136_5 : ftyT Try.prog 136 5 = 5 := by kernel_rfl
theorem fl_136_6 : fldT Try.prog 136 6 = some (6, 131) := by kernel_rfl
theorem ft_136_6 : ftyT Try.prog 136 6 = 131 := by kernel_rfl
theorem fl_136_7 : fldT Try.prog 136 7 = some (7, 132) := by kernel_rfl
theorem ft_136_7 : ftyT Try.prog 136 7 = 132 := by kernel_rfl
theorem fl_136_8 : fldT Try.prog 136 8 = some (8, 109) := by kernel_rfl
theorem ft_136_8 : ftyT Try.prog 136 8 = 109 := by kernel_rfl
theorem fl_136_9 : fldT Try.prog 136 9 = some (9, 133) := by kernel_rfl
theorem ft_136_9 : ftyT Try.prog 136 9 = 133 := by kernel_rfl
theorem fl_136_10 : fldT Try.prog 136 10 = some (10, 134) := by kernel_rfl
theorem ft_136_10 : ftyT Try.prog 136 10 = 134 := by kernel_rfl
theorem ap_22 : apT Try.prog 22 5 := apT_mk el_22 sz_49 by_49_22 (by decide) ze_49 rfl
theorem ap_27 : apT Try.prog 27 5 := apT_mk el_27 sz_37 by_37_27 (by decide) ze_37 rfl
theorem ap_33 : apT Try.prog 33 2 := apT_mk el_33 sz_35 by_35_33 (by decide) ze_35 rfl
theorem ap_45 : apT Try.prog 45 2 := apT_mk el_45 sz_47 by_47_45 (by decide) ze_47 rfl
theorem ap_81 : apT Try.prog 81 1 := apT_mk el_81 sz_9 by_9_81 (by decide) ze_9 rfl
theorem ap_93 : apT Try.prog 93 1 := apT_mk el_93 sz_5 by_5_93 (by decide) ze_5 rfl
attribute [go_sem] nl_0 nl_1 ag_1 sz_1 ze_1 nl_2 ag_2 sz_2 in_2 ze_2 nl_3 ag_3 sz_3 in_3 ze_3 nl_4 ag_4 sz_4 bo_4 ze_4 nl_5 ag_5 sz_5 in_5 ze_5 nl_6 ag_6 sz_6 in_6 ze_6 nl_7 ag_7 sz_7 ze_7 pl_7 fl_7_0 ft_7_0 fl_7_1 ft_7_1 fl_7_2 ft_7_2 fl_7_3 ft_7_3 nl_8 ag_8 sz_8 ze_8 pl_8 fl_8_0 ft_8_0 fl_8_1 ft_8_1 fl_8_2 ft_8_2 fl_8_3 ft_8_3 nl_9 ag_9 sz_9 in_9 st_9 ze_9 nl_10 ag_10 sz_10 in_10 st_10 ze_10 nl_11 ag_11 sz_11 in_11 st_11 ze_11 nl_12 ag_12 sz_12 in_12 ze_12 nl_13 ag_13 sz_13 ze_13 pl_13 fl_13_0 ft_13_0 fl_13_1 ft_13_1 nl_14 ag_14 sz_14 ze_14 pl_14 fl_14_0 ft_14_0 fl_14_1 ft_14_1 nl_15 ag_15 sz_15 ze_15 nl_16 ag_16 sz_16 ze_16 nl_17 ag_17 sz_17 ze_17 nl_18 ag_18 sz_18 ze_18 pl_18 fl_18_0 ft_18_0 nl_19 ag_19 sz_19 ze_19 pl_19 fl_19_0 ft_19_0 nl_20 ag_20 sz_20 ze_20 nl_21 ag_21 sz_21 in_21 ze_21 nl_22 ag_22 sz_22 el_22 by_49_22 us_22 in_22 ze_22 nl_23 ag_23 sz_23 ze_23 pl_23 fl_23_0 ft_23_0 fl_23_1 ft_23_1 nl_24 ag_24 sz_24 ze_24 pl_24 fl_24_0 ft_24_0 fl_24_1 ft_24_1 nl_25 ag_25 sz_25 ze_25 nl_26 ag_26 sz_26 ze_26 nl_27 ag_27 sz_27 el_27 by_37_27 us_27 in_27 ze_27 nl_28 ag_28 sz_28 ze_28 pl_28 fl_28_0 ft_28_0 fl_28_1 ft_28_1 nl_29 ag_29 sz_29 ze_29 pl_29 fl_29_0 ft_29_0 fl_29_1 ft_29_1 nl_30 ag_30 sz_30 ze_30 nl_31 ag_31 sz_31 ze_31 nl_32 ag_32 sz_32 ze_32 nl_33 ag_33 sz_33 el_33 by_35_33 us_33 in_33 ze_33 nl_34 ag_34 sz_34 ze_34 pl_34 fl_34_0 ft_34_0 fl_34_1 ft_34_1 nl_35 ag_35 sz_35 ze_35 pl_35 fl_35_0 ft_35_0 fl_35_1 ft_35_1 nl_36 ag_36 sz_36 ze_36 pl_36 fl_36_0 ft_36_0 fl_36_1 ft_36_1 fl_36_2 ft_36_2 fl_36_3 ft_36_3 nl_37 ag_37 sz_37 ze_37 pl_37 fl_37_0 ft_37_0 fl_37_1 ft_37_1 fl_37_2 ft_37_2 fl_37_3 ft_37_3 nl_38 nl_39 ag_39 sz_39 ze_39 nl_40 ag_40 sz_40 ze_40 nl_41 ag_41 sz_41 ze_41 nl_42 ag_42 sz_42 ze_42 nl_43 nl_44 ag_44 sz_44 ze_44 nl_45 ag_45 sz_45 el_45 by_47_45 us_45 in_45 ze_45 nl_46 ag_46 sz_46 ze_46 pl_46 fl_46_0 ft_46_0 fl_46_1 ft_46_1 nl_47 ag_47 sz_47 ze_47 pl_47 fl_47_0 ft_47_0 fl_47_1 ft_47_1 nl_48 ag_48 sz_48 ze_48 pl_48 fl_48_0 ft_48_0 fl_48_1 ft_48_1 fl_48_2 ft_48_2 fl_48_3 ft_48_3 nl_49 ag_49 sz_49 ze_49 pl_49 fl_49_0 ft_49_0 fl_49_1 ft_49_1 fl_49_2 ft_49_2 fl_49_3 ft_49_3 nl_50 ag_50 sz_50 ze_50 nl_51 ag_51 sz_51 ze_51 nl_52 ag_52 sz_52 ze_52 nl_53 ag_53 sz_53 ze_53 nl_54 ag_54 sz_54 ze_54 nl_55 ag_55 sz_55 ze_55 nl_56 ag_56 sz_56 ze_56 nl_57 ag_57 sz_57 ze_57 nl_58 ag_58 sz_58 ze_58 nl_59 ag_59 sz_59 ze_59 nl_60 ag_60 sz_60 ze_60 nl_61 ag_61 sz_61 ze_61 nl_62 ag_62 sz_62 ze_62 nl_63 ag_63 sz_63 ze_63 nl_64 ag_64 sz_64 ze_64 nl_65 ag_65 sz_65 ze_65 nl_66 ag_66 sz_66 ze_66 nl_67 ag_67 sz_67 ze_67 nl_68 ag_68 sz_68 ze_68 nl_69 ag_69 sz_69 ze_69 nl_70 ag_70 sz_70 ze_70 nl_71 ag_71 sz_71 ze_71 nl_72 ag_72 sz_72 ze_72 nl_73 ag_73 sz_73 ze_73 nl_74 ag_74 sz_74 ze_74 nl_75 ag_75 sz_75 ze_75 nl_76 ag_76 sz_76 ze_76 nl_77 ag_77 sz_77 ze_77 nl_78 ag_78 sz_78 ze_78 nl_79 ag_79 sz_79 ze_79 nl_80 ag_80 sz_80 ze_80 nl_81 ag_81 sz_81 el_81 by_9_81 us_81 in_81 ze_81 nl_82 ag_82 sz_82 ze_82 nl_83 ag_83 sz_83 ze_83 nl_84 ag_84 sz_84 ze_84 nl_85 ag_85 sz_85 ze_85 nl_86 ag_86 sz_86 ze_86 nl_87 ag_87 sz_87 ze_87 nl_88 ag_88 sz_88 ze_88 nl_89 ag_89 sz_89 ze_89 nl_90 ag_90 sz_90 ze_90 nl_91 ag_91 sz_91 ze_91 nl_92 ag_92 sz_92 ze_92 nl_93 ag_93 sz_93 el_93 by_5_93 us_93 in_93 ze_93 nl_94 ag_94 sz_94 ze_94 nl_95 ag_95 sz_95 ze_95 nl_96 ag_96 sz_96 ze_96 pl_96 fl_96_0 ft_96_0 fl_96_1 ft_96_1 nl_97 ag_97 sz_97 ze_97 pl_97 fl_97_0 ft_97_0 fl_97_1 ft_97_1 nl_98 ag_98 sz_98 ze_98 nl_99 ag_99 sz_99 ze_99 nl_100 ag_100 sz_100 ze_100 nl_101 nl_102 ag_102 sz_102 ze_102 nl_103 ag_103 sz_103 ze_103 nl_104 ag_104 sz_104 ze_104 nl_105 ag_105 sz_105 ze_105 nl_106 ag_106 sz_106 ze_106 nl_107 ag_107 sz_107 ze_107 nl_108 ag_108 sz_108 ze_108 nl_109 ag_109 sz_109 ze_109 nl_110 ag_110 sz_110 ze_110 nl_111 ag_111 sz_111 ze_111 nl_112 ag_112 sz_112 ze_112 nl_113 ag_113 sz_113 ze_113 nl_114 ag_114 sz_114 ze_114 nl_115 ag_115 sz_115 ze_115 nl_116 ag_116 sz_116 nl_117 ag_117 sz_117 ze_117 nl_118 ag_118 sz_118 ze_118 nl_119 ag_119 sz_119 ze_119 nl_120 ag_120 sz_120 ze_120 nl_121 ag_121 sz_121 ze_121 nl_122 ag_122 sz_122 ze_122 nl_123 ag_123 sz_123 ze_123 pl_123 fl_123_0 ft_123_0 fl_123_1 ft_123_1 fl_123_2 ft_123_2 fl_123_3 ft_123_3 nl_124 ag_124 sz_124 ze_124 pl_124 fl_124_0 ft_124_0 fl_124_1 ft_124_1 fl_124_2 ft_124_2 fl_124_3 ft_124_3 nl_125 ag_125 sz_125 nl_126 ag_126 sz_126 pl_126 fl_126_0 ft_126_0 nl_127 ag_127 sz_127 pl_127 fl_127_0 ft_127_0 nl_128 ag_128 sz_128 ze_128 nl_129 ag_129 sz_129 in_129 ze_129 nl_130 ag_130 sz_130 in_130 ze_130 nl_131 ag_131 sz_131 in_131 ze_131 nl_132 ag_132 sz_132 ze_132 nl_133 ag_133 sz_133 in_133 ze_133 nl_134 ag_134 sz_134 in_134 ze_134 nl_135 ag_135 sz_135 ze_135 pl_135 fl_135_0 ft_135_0 fl_135_1 ft_135_1 fl_135_2 ft_135_2 fl_135_3 ft_135_3 fl_135_4 ft_135_4 fl_135_5 ft_135_5 fl_135_6 ft_135_6 fl_135_7 ft_135_7 fl_135_8 ft_135_8 fl_135_9 ft_135_9 fl_135_10 ft_135_10 nl_136 ag_136 sz_136 ze_136 pl_136 fl_136_0 ft_136_0 fl_136_1 ft_136_1 fl_136_2 ft_136_2 fl_136_3 ft_136_3 fl_136_4 ft_136_4 fl_136_5 ft_136_5 fl_136_6 ft_136_6 fl_136_7 ft_136_7 fl_136_8 ft_136_8 fl_136_9 ft_136_9 fl_136_10 ft_136_10 ap_22 ap_27 ap_33 ap_45 ap_81 ap_93
attribute [go_sem] Nat.reduceEqDiff reduceIte reduceCtorEq Nat.reduceAdd Nat.reduceMul Int.reduceLE Int.reduceNeg Int.reduceToNat Nat.reduceLeDiff Nat.reduceSub Nat.reduceLT Nat.le_refl Int.cast_ofNat_Int Int.reduceLT Int.reduceGT Int.reduceGE Int.reduceEq Int.reduceBEq Nat.reduceBEq Int.reduceBNe Int.reduceAdd Int.reduceSub gt_iff_lt ge_iff_le
end Go.Proofs.Ytgfjbbbkploonaa
/-
  Terms, formulas and sequents as plain data, and as cells.
  Conditions: none.
-/
namespace Go.Proofs.Ytgfjbbbkploonaa
set_option linter.unusedSimpArgs false
set_option linter.unusedVariables false
set_option maxRecDepth 4000
open Go.RowKit
abbrev Str := List UInt8
/-- A term. -/
inductive Tm where
  | mk (name : Str) (args : List Tm)
def Tm.name : Tm → Str | .mk n _ => n
def Tm.args : Tm → List Tm | .mk _ xs => xs
theorem Tm.eta : ∀ a : Tm, Tm.mk a.name a.args = a | .mk _ _ => rfl
mutual
theorem tm_ind {P : Tm → Prop} (h : ∀ n xs, (∀ x ∈ xs, P x) → P (.mk n xs)) : ∀ a, P a
  | .mk n xs => h n xs (tm_inds h xs)
theorem tm_inds {P : Tm → Prop} (h : ∀ n xs, (∀ x ∈ xs, P x) → P (.mk n xs)) : ∀ xs : List Tm, ∀ x ∈ xs, P x
  | [], x, hx => absurd hx (by simp)
  | a :: xs, x, hx => (List.mem_cons.1 hx).elim (fun e => e ▸ tm_ind h a) (tm_inds h xs x)
end
mutual
def Tm.fold {α : Type} (f : Str → List Tm → List α → α) : Tm → α
  | .mk n xs => f n xs (Tm.folds f xs)
def Tm.folds {α : Type} (f : Str → List Tm → List α → α) : List Tm → List α
  | [] => []
  | a :: xs => Tm.fold f a :: Tm.folds f xs
end
theorem Tm.folds_map {α : Type} (f : Str → List Tm → List α → α) (xs : List Tm) : Tm.folds f xs = xs.map (Tm.fold f) := by
  induction xs with
  | nil => rfl
  | cons a xs ih => rw [Tm.folds, ih]; rfl
theorem Tm.fold_eq {α : Type} (f : Str → List Tm → List α → α) (a : Tm) : Tm.fold f a = f a.name a.args (a.args.map (Tm.fold f)) := by
  cases a; rw [Tm.fold, Tm.folds_map]; rfl
/-- A formula. -/
inductive Fm where
  | mk (op : Int) (atom : Tm) (var : Str) (parts : List Fm)
def Fm.op : Fm → Int | .mk o _ _ _ => o
def Fm.atom : Fm → Tm | .mk _ a _ _ => a
def Fm.var : Fm → Str | .mk _ _ v _ => v
def Fm.parts : Fm → List Fm | .mk _ _ _ ps => ps
theorem Fm.eta : ∀ a : Fm, Fm.mk a.op a.atom a.var a.parts = a | .mk _ _ _ _ => rfl
mutual
theorem fm_ind {P : Fm → Prop} (h : ∀ o a v ps, (∀ x ∈ ps, P x) → P (.mk o a v ps)) : ∀ f, P f
  | .mk o a v ps => h o a v ps (fm_inds h ps)
theorem fm_inds {P : Fm → Prop} (h : ∀ o a v ps, (∀ x ∈ ps, P x) → P (.mk o a v ps)) : ∀ xs : List Fm, ∀ x ∈ xs, P x
  | [], x, hx => absurd hx (by simp)
  | a :: xs, x, hx => (List.mem_cons.1 hx).elim (fun e => e ▸ fm_ind h a) (fm_inds h xs x)
end
mutual
def Fm.fold {α : Type} (f : Int → Tm → Str → List Fm → List α → α) : Fm → α
  | .mk o a v ps => f o a v ps (Fm.folds f ps)
def Fm.folds {α : Type} (f : Int → Tm → Str → List Fm → List α → α) : List Fm → List α
  | [] => []
  | a :: xs => Fm.fold f a :: Fm.folds f xs
end
theorem Fm.folds_map {α : Type} (f : Int → Tm → Str → List Fm → List α → α) (xs : List Fm) : Fm.folds f xs = xs.map (Fm.fold f) := by
  induction xs with
  | nil => rfl
  | cons a xs ih => rw [Fm.folds, ih]; rfl
theorem Fm.fold_eq {α : Type} (f : Int → Tm → Str → List Fm → List α → α) (a : Fm) : Fm.fold f a = f a.op a.atom a.var a.parts (a.parts.map (Fm.fold f)) := by
  cases a; rw [Fm.fold, Fm.folds_map]; rfl
/-- A sequent. -/
structure Sq where
  left : List Fm
  right : List Fm

def tmC : Tm → List T := Tm.fold fun n _ rs => [.str n, .sl 2 rs]
theorem tmC_eq (a : Tm) : tmC a = [.str a.name, .sl 2 (a.args.map tmC)] := Tm.fold_eq _ a
def fmC : Fm → List T := Fm.fold fun o a v _ rs => [.int .i64 o, .str a.name, .sl 2 (a.args.map tmC), .str v, .sl 5 rs]
theorem fmC_eq (a : Fm) : fmC a = [.int .i64 a.op, .str a.atom.name, .sl 2 (a.atom.args.map tmC), .str a.var, .sl 5 (a.parts.map fmC)] := Fm.fold_eq _ a
theorem tmC_mk (n : Str) (xs : List Tm) : tmC (.mk n xs) = [.str n, .sl 2 (xs.map tmC)] := tmC_eq _
theorem fmC_mk (o : Int) (a : Tm) (v : Str) (ps : List Fm) : fmC (.mk o a v ps) = [.int .i64 o, .str a.name, .sl 2 (a.args.map tmC), .str v, .sl 5 (ps.map fmC)] := fmC_eq _
def sqC (s : Sq) : List T := [.sl 5 (s.left.map fmC), .sl 5 (s.right.map fmC)]
theorem sqC_eq (s : Sq) : sqC s = [.sl 5 (s.left.map fmC), .sl 5 (s.right.map fmC)] := rfl
abbrev tmD (a : Tm) : D := .agg (tmC a)
abbrev fmD (a : Fm) : D := .agg (fmC a)
abbrev sqD (a : Sq) : D := .agg (sqC a)
abbrev tmS (xs : List Tm) : T := .sl 2 (xs.map tmC)
abbrev fmS (xs : List Fm) : T := .sl 5 (xs.map fmC)
abbrev iD (n : Int) : D := .one (.int .i64 n)
abbrev bD (b : Bool) : D := .one (.bool b)
abbrev sD (s : Str) : D := .one (.str s)

theorem getD_at {α : Type} (f : α → List T) (xs : List α) (k : Nat) (h : k < xs.length) : (xs.map f).getD k [] = f (xs[k]'h) := by simp [List.getD, h]

/-- How much a term holds. -/
def Tm.wt : Tm → Nat := Tm.fold fun n xs rs => n.length + xs.length + rs.sum
theorem Tm.wt_eq (a : Tm) : a.wt = a.name.length + a.args.length + (a.args.map Tm.wt).sum := Tm.fold_eq _ a
def Fm.wt : Fm → Nat := Fm.fold fun _ a v ps rs => a.wt + v.length + ps.length + rs.sum
theorem Fm.wt_eq (a : Fm) : a.wt = a.atom.wt + a.var.length + a.parts.length + (a.parts.map Fm.wt).sum := Fm.fold_eq _ a
def tmsW (xs : List Tm) : Nat := xs.length + (xs.map Tm.wt).sum
def fmsW (xs : List Fm) : Nat := xs.length + (xs.map Fm.wt).sum
def Sq.wt (s : Sq) : Nat := fmsW s.left + fmsW s.right
theorem Sq.wt_eq (a : Sq) : a.wt = fmsW a.left + fmsW a.right := rfl
/-- What is left. -/
def szR (w : Nat) (left : Int) : Int := if (w : Int) ≤ left then left - w else -1
/-- The sum over the first ones. -/
def psum {α : Type} (f : α → Nat) (xs : List α) (k : Nat) : Nat := ((xs.take k).map f).sum
theorem psum_zero {α : Type} (f : α → Nat) (xs : List α) : psum f xs 0 = 0 := by simp [psum]
theorem psum_succ {α : Type} (f : α → Nat) (xs : List α) (k : Nat) (h : k < xs.length) : psum f xs (k + 1) = psum f xs k + f xs[k] := by
  unfold psum
  rw [List.take_succ_eq_append_getElem h, List.map_append, List.sum_append]; simp
theorem psum_le {α : Type} (f : α → Nat) (xs : List α) (k : Nat) : psum f xs k ≤ (xs.map f).sum := by
  unfold psum
  conv => rhs; rw [← List.take_append_drop k xs, List.map_append, List.sum_append]
  omega
theorem psum_all {α : Type} (f : α → Nat) (xs : List α) (k : Nat) (h : xs.length ≤ k) : psum f xs k = (xs.map f).sum := by
  unfold psum
  rw [List.take_of_length_le h]
theorem mem_sum {α : Type} (f : α → Nat) (xs : List α) : ∀ x ∈ xs, f x ≤ (xs.map f).sum := by
  induction xs with
  | nil => simp
  | cons a xs ih =>
    intro x hx
    rcases List.mem_cons.1 hx with rfl | hx
    · simp
    · have := ih x hx; simp; omega
noncomputable def same {α : Type} (a b : α) : Bool := @decide (a = b) (Classical.propDecidable _)
theorem same_iff {α : Type} {a b : α} : same a b = true ↔ a = b := by simp [same]
theorem same_no {α : Type} {a b : α} : same a b = false ↔ a ≠ b := by simp [same]
theorem same_self {α : Type} (a : α) : same a a = true := by simp [same]
theorem same_cons {α : Type} (a b : α) (xs ys : List α) : same (a :: xs) (b :: ys) = (same a b && same xs ys) := by
  rw [Bool.eq_iff_iff, Bool.and_eq_true, same_iff, same_iff, same_iff, List.cons.injEq]
theorem same_nil {α : Type} : same ([] : List α) [] = true := same_self _
theorem wrap_s {k : Nat} (h : k < 9223372036854775807) : IntKind.i64.wrap ((k : Int) + 1) = ((k + 1 : Nat) : Int) := wrap_succ h
theorem szR_neg {w : Nat} {l : Int} (h0 : 0 ≤ l) (h : szR w l < 0) : l < w := by unfold szR at h; split at h <;> omega
theorem szR_pos {w : Nat} {l : Int} (h : ¬ szR w l < 0) : (w : Int) ≤ l ∧ szR w l = l - w := by
  by_cases hh : (w : Int) ≤ l
  · exact ⟨hh, if_pos hh⟩
  · exact absurd (by rw [szR, if_neg hh]; omega) h
theorem szR_big {w : Nat} {l : Int} (h : l < w) : szR w l = -1 := if_neg (by omega)
theorem szR_ok {w : Nat} {l : Int} (h : (w : Int) ≤ l) : szR w l = l - w := if_pos h
theorem int_eq {k : IntKind} {a b : Int} (h : a = b) : T.int k a = T.int k b := h ▸ rfl
/-- The next element of a slice that is being filled. -/
theorem fill_next (A : List (List T)) (n k : Nat) (z ts : List T) (hA : A.length = k) (hk : k < n) (hz : ts.length = z.length) : setRw (A ++ List.replicate (n - k) z) k 0 ts = A ++ [ts] ++ List.replicate (n - (k + 1)) z := by
  subst hA
  have e : List.replicate (n - A.length) z = z :: List.replicate (n - (A.length + 1)) z := by
    rw [show n - A.length = (n - (A.length + 1)) + 1 by omega]; rfl
  unfold setRw
  rw [e]
  simp [setR_full _ _ hz]
end Go.Proofs.Ytgfjbbbkploonaa
/-
  Contracts of functions of the program and of its laws, over plain data.
  Conditions: those that each theorem names.
-/
namespace Go.Proofs.Ytgfjbbbkploonaa
set_option linter.unusedSimpArgs false
set_option linter.unusedVariables false
set_option maxRecDepth 4000
open Go.RowKit
def isLow (b : UInt8) : Bool := decide (97 ≤ (b.toNat : Int)) && decide ((b.toNat : Int) ≤ 122)
def isDig (b : UInt8) : Bool := decide (48 ≤ (b.toNat : Int)) && decide ((b.toNat : Int) ≤ 57)
def isUp (b : UInt8) : Bool := decide (65 ≤ (b.toNat : Int)) && decide ((b.toNat : Int) ≤ 90)
def isSm (b : UInt8) : Bool := isLow b || isDig b
abbrev uD (b : UInt8) : D := .one (.int .u8 b.toNat)
theorem isLower_c (b : UInt8) : FC Try.prog 94 [uD b] [bD (isLow b)] := by
  unfold isLow
  refine FC_of Try.call94 Try.func94 rfl (by kernel_rfl) (by simp only [rd, List.map_cons, List.map_nil, List.length_cons, List.length_nil, Try.ntmps94]; omega) ?_
  simp -implicitDefEqProofs only [go_sem, Try.results94]
  refine ⟨fun h => ?_, fun h => ?_⟩ <;> simp at h ⊢ <;> omega
theorem isDigit_c (b : UInt8) : FC Try.prog 95 [uD b] [bD (isDig b)] := by
  unfold isDig
  refine FC_of Try.call95 Try.func95 rfl (by kernel_rfl) (by simp only [rd, List.map_cons, List.map_nil, List.length_cons, List.length_nil, Try.ntmps95]; omega) ?_
  simp -implicitDefEqProofs only [go_sem, Try.results95]
  refine ⟨fun h => ?_, fun h => ?_⟩ <;> simp at h ⊢ <;> omega
theorem isUpper_c (b : UInt8) : FC Try.prog 93 [uD b] [bD (isUp b)] := by
  unfold isUp
  refine FC_of Try.call93 Try.func93 rfl (by kernel_rfl) (by simp only [rd, List.map_cons, List.map_nil, List.length_cons, List.length_nil, Try.ntmps93]; omega) ?_
  simp -implicitDefEqProofs only [go_sem, Try.results93]
  refine ⟨fun h => ?_, fun h => ?_⟩ <;> simp at h ⊢ <;> omega
def inB (n lo hi : Int) : Bool := decide (lo ≤ n) && decide (n ≤ hi)
theorem within_c (n lo hi : Int) : FC Try.prog 96 [iD n, iD lo, iD hi] [bD (inB n lo hi)] := by
  unfold inB
  refine FC_of Try.call96 Try.func96 rfl (by kernel_rfl) (by simp only [rd, List.map_cons, List.map_nil, List.length_cons, List.length_nil, Try.ntmps96]; omega) ?_
  simp -implicitDefEqProofs only [go_sem, Try.results96]
  refine ⟨fun h => ?_, fun h => ?_⟩ <;> simp at h ⊢ <;> omega
theorem l1In_c (n lo hi : Int) : FC Try.prog 122 [iD n, iD lo, iD hi] [bD (inB n lo hi)] := by
  unfold inB
  refine FC_of Try.call122 Try.func122 rfl (by kernel_rfl) (by simp only [rd, List.map_cons, List.map_nil, List.length_cons, List.length_nil, Try.ntmps122]; omega) ?_
  simp -implicitDefEqProofs only [go_sem, Try.results122]
  refine ⟨fun h => ?_, fun h => ?_⟩ <;> simp at h ⊢ <;> omega
theorem l1Most_c (a b : Int) : FC Try.prog 131 [iD a, iD b] [iD (max a b)] := by
  refine FC_of Try.call131 Try.func131 rfl (by kernel_rfl) (by simp only [rd, List.map_cons, List.map_nil, List.length_cons, List.length_nil, Try.ntmps131]; omega) ?_
  simp -implicitDefEqProofs only [go_sem, Try.results131]
  refine ⟨fun h => ?_, fun h => ?_⟩ <;> simp at h <;> exact int_eq (by omega)
theorem l2Small_c (b : UInt8) : FC Try.prog 123 [uD b] [bD (isSm b)] := by
  unfold isSm isLow isDig
  refine FC_of Try.call123 Try.func123 rfl (by kernel_rfl) (by simp only [rd, List.map_cons, List.map_nil, List.length_cons, List.length_nil, Try.ntmps123]; omega) ?_
  simp -implicitDefEqProofs only [go_sem, Try.results123]
  simp only [T.bool.injEq, decide_eq_true_eq, decide_eq_false_iff_not]
  refine ⟨fun h => ⟨fun h2 => ⟨fun h3 => ?_, fun h3 => ?_⟩, fun h2 => ?_⟩, fun h => ⟨fun h2 => ?_, fun h2 => ?_⟩⟩ <;> simp [h, h2] <;> omega
def okAll : Str → Bool
  | [] => true
  | c :: cs => isUp c && cs.all isSm
def varOk (s : Str) : Bool := okAll s && inB s.length 1 4
theorem isVariable_c (s : Str) : FC Try.prog 76 [sD s] [bD (varOk s)] := by
  refine FC_wf (fun hw => ?_) Try.call76
  have hl : s.length ≤ 9223372036854775807 := by simpa [wfDs, wfT] using hw.1
  refine FC_of Try.call76 Try.func76 rfl (by kernel_rfl) (by simp only [rd, List.map_cons, List.map_nil, List.length_cons, List.length_nil, Try.ntmps76]; omega) ?_
  simp -implicitDefEqProofs only [go_sem, Try.results76]
  refine loop_rule (fun k : Nat => hd [(0, vT (.str s)), (5, vI s.length), (6, vI k)] [] []) (fun k => k ≤ s.length ∧ okAll s = if k = 0 then okAll s else (s.drop k).all isSm) (fun k => s.length - k) 0 (weak_hd ?_) ?_ ?_
  · simp -implicitDefEqProofs only [go_sem]
  · simp
  · intro k ⟨hk, hr⟩
    by_cases hlt : k < s.length
    · by_cases h0 : k = 0
      · subst h0
        have hl0 : (0 : Int) < s.length := by omega
        have he : okAll s = (isUp (s.getD 0 0) && (s.drop 1).all isSm) := by cases s; exact absurd hlt (by simp); rfl
        simp -implicitDefEqProofs only [go_sem, hlt, hl0]
        refine callF (isUpper_c (s.getD 0 0)) (by simp -implicitDefEqProofs only [go_sem]) ?_
        simp -implicitDefEqProofs only [go_sem]
        refine ⟨fun h => ⟨1, ⟨hlt, ?_⟩, by omega, weak_hd (by simp -implicitDefEqProofs only [go_sem]; rw [wrap_in (by omega) (by omega)])⟩, fun h => ?_⟩
        · have : isUp (s.getD 0 0) = true := by simpa using h
          rw [he, this]; rfl
        · have : isUp (s.getD 0 0) = false := by simpa using h
          rw [varOk, he, this]; rfl
      · have h1 : ((k : Int) == 0) = false := by simp; omega
        have h2 : (0 : Int) < k := by omega
        have hg : s.getD k 0 = s[k] := by simp [List.getD, hlt]
        rw [if_neg h0, List.drop_eq_getElem_cons hlt, List.all_cons] at hr
        simp -implicitDefEqProofs only [go_sem, hlt, h1, h2]
        refine callF (isLower_c (s.getD k 0)) (by simp -implicitDefEqProofs only [go_sem]) ?_
        simp -implicitDefEqProofs only [go_sem]
        simp only [hg]
        refine ⟨fun h => ⟨hlt, ?_⟩, fun h => ?_⟩
        · refine callF (isDigit_c s[k]) (by simp -implicitDefEqProofs only [go_sem]) ?_
          simp -implicitDefEqProofs only [go_sem]
          refine ⟨fun h' => ?_, fun h' => ⟨k + 1, ⟨hlt, ?_⟩, by omega, weak_hd (by simp -implicitDefEqProofs only [go_sem]; rw [wrap_s (by omega)])⟩⟩
          · have : isSm s[k] = false := by simp [isSm]; simp at h h'; exact ⟨h, h'⟩
            simp [varOk, hr, this]
          · have : isSm s[k] = true := by simp [isSm]; right; simpa using h'
            rw [hr, this]; simp
        · refine ⟨k + 1, ⟨hlt, ?_⟩, by omega, weak_hd (by simp -implicitDefEqProofs only [go_sem]; rw [wrap_s (by omega)])⟩
          have : isSm s[k] = true := by simp [isSm]; left; simpa using h
          rw [hr, this]; simp
    · simp -implicitDefEqProofs only [go_sem, hlt]
      refine callF (within_c s.length 1 4) (by simp -implicitDefEqProofs only [go_sem]) ?_
      simp -implicitDefEqProofs only [go_sem]
      have : okAll s = true := by
        by_cases h0 : k = 0
        · have : s = [] := List.length_eq_zero_iff.1 (by omega)
          rw [this]; rfl
        · rw [hr, if_neg h0, List.drop_of_length_le (by omega)]; rfl
      simp [varOk, this]
end Go.Proofs.Ytgfjbbbkploonaa
/-
  Contracts of functions of the program and of its laws, over plain data.
  Conditions: those that each theorem names.
-/
namespace Go.Proofs.Ytgfjbbbkploonaa
set_option linter.unusedSimpArgs false
set_option linter.unusedVariables false
set_option maxRecDepth 4000
open Go.RowKit
abbrev strS (xs : List Str) : T := .sl 1 (xs.map fun s => [.str s])
theorem idx_found {α : Type} [BEq α] [LawfulBEq α] {xs : List α} {s : α} {k : Nat} (hk : k < xs.length) (hn : s ∉ xs.take k) (e : xs[k] = s) : xs.idxOf s = k := by
  have h : xs = xs.take k ++ xs.drop k := (List.take_append_drop k xs).symm
  rw [List.drop_eq_getElem_cons hk] at h
  rw [h, List.idxOf_append, if_neg hn, e]
  rw [show (s :: xs.drop (k + 1)).idxOf s = 0 from List.idxOf_cons_self ..]
  simp; omega
theorem not_take_succ {α : Type} {xs : List α} {s : α} {k : Nat} (hk : k < xs.length) (hn : s ∉ xs.take k) (e : xs[k] ≠ s) : s ∉ xs.take (k + 1) := by
  rw [List.take_succ_eq_append_getElem hk]
  simp only [List.mem_append, List.mem_singleton, not_or]
  exact ⟨hn, fun h => e h.symm⟩
def idxS {α : Type} [BEq α] (xs : List α) (s : α) : Int := if xs.contains s then xs.idxOf s else -1
theorem indexStr_c (xs : List Str) (s : Str) : FC Try.prog 128 [.one (strS xs), sD s] [iD (idxS xs s)] := by
  refine FC_wf (fun hw => ?_) Try.call128
  have hl : xs.length ≤ 9223372036854775807 := by simpa [wfDs, wfT] using hw.1.1
  refine FC_of Try.call128 Try.func128 rfl (by kernel_rfl) (by simp only [rd, List.map_cons, List.map_nil, List.length_cons, List.length_nil, Try.ntmps128]; omega) ?_
  simp -implicitDefEqProofs only [go_sem, Try.results128]
  refine loop_rule (fun k : Nat => hd [(0, vT (strS xs)), (1, vT (.str s)), (7, vI xs.length), (8, vI k)] [] []) (fun k => k ≤ xs.length ∧ s ∉ xs.take k) (fun k => xs.length - k) 0 (weak_hd ?_) ?_ ?_
  · simp -implicitDefEqProofs only [go_sem]
  · simp
  · intro k ⟨hk, hr⟩
    by_cases hlt : k < xs.length
    · simp -implicitDefEqProofs only [go_sem, getD_at, hlt]
      refine ⟨fun h => ?_, fun h => ?_⟩
      · have e : xs[k] = s := (beq_iff_eq.1 h).symm
        have hm : s ∈ xs := e ▸ List.getElem_mem hlt
        rw [idxS, if_pos (by simpa using hm), idx_found hlt hr e]
      · have e : xs[k] ≠ s := fun e => by simp [e] at h
        exact ⟨k + 1, ⟨hlt, not_take_succ hlt hr e⟩, by omega, weak_hd (by simp -implicitDefEqProofs only [go_sem]; rw [wrap_s (by omega)])⟩
    · simp -implicitDefEqProofs only [go_sem, hlt]
      rw [List.take_of_length_le (by omega)] at hr
      rw [idxS, if_neg (by simpa using hr)]
theorem containsStr_c (xs : List Str) (s : Str) : FC Try.prog 116 [.one (strS xs), sD s] [bD (xs.contains s)] := by
  refine FC_of Try.call116 Try.func116 rfl (by kernel_rfl) (by simp only [rd, List.map_cons, List.map_nil, List.length_cons, List.length_nil, Try.ntmps116]; omega) ?_
  simp -implicitDefEqProofs only [go_sem, Try.results116]
  refine callF (indexStr_c xs s) (by simp -implicitDefEqProofs only [go_sem]) ?_
  simp -implicitDefEqProofs only [go_sem]
  unfold idxS
  cases h : xs.contains s <;> simp
def resW : List Str := [[116, 114, 117, 101], [102, 97, 108, 115, 101], [116, 114, 117, 116, 104], [98, 111, 116, 104], [101, 105, 116, 104, 101, 114], [105, 102], [97, 108, 108], [115, 111, 109, 101]]
theorem reserved_c : FC Try.prog 117 [] [.one (strS resW)] := by
  refine FC_of Try.call117 Try.func117 rfl (by kernel_rfl) (by simp only [rd, List.map_cons, List.map_nil, List.length_cons, List.length_nil, Try.ntmps117]; omega) ?_
  simp -implicitDefEqProofs only [go_sem, Try.results117]
  refine buildDc (by simp -implicitDefEqProofs only [go_sem]) ?_
  simp -implicitDefEqProofs only [go_sem]
  rfl
def isNx (b : UInt8) : Bool := isSm b || b == 95
def symAll : Str → Bool
  | [] => true
  | c :: cs => isLow c && cs.all isNx
def symOk (s : Str) : Bool := symAll s && inB s.length 1 6 && !resW.contains s
theorem u8_eq {b : UInt8} {n : Nat} (hn : n < 256) : ((b.toNat : Int) == (n : Int)) = (b == UInt8.ofNat n) := by
  rw [Bool.eq_iff_iff]
  simp only [beq_iff_eq]
  constructor
  · intro h
    apply UInt8.toNat_inj.1
    simp [UInt8.toNat_ofNat]
    omega
  · intro h
    subst h
    simp [UInt8.toNat_ofNat]
    omega
theorem isSymbol_c (s : Str) : FC Try.prog 100 [sD s] [bD (symOk s)] := by
  refine FC_wf (fun hw => ?_) Try.call100
  have hl : s.length ≤ 9223372036854775807 := by simpa [wfDs, wfT] using hw.1
  refine FC_of Try.call100 Try.func100 rfl (by kernel_rfl) (by simp only [rd, List.map_cons, List.map_nil, List.length_cons, List.length_nil, Try.ntmps100]; omega) ?_
  simp -implicitDefEqProofs only [go_sem, Try.results100]
  refine loop_rule (fun k : Nat => hd [(0, vT (.str s)), (5, vI s.length), (6, vI k)] [] []) (fun k => k ≤ s.length ∧ symAll s = if k = 0 then symAll s else (s.drop k).all isNx) (fun k => s.length - k) 0 (weak_hd ?_) ?_ ?_
  · simp -implicitDefEqProofs only [go_sem]
  · simp
  · intro k ⟨hk, hr⟩
    by_cases hlt : k < s.length
    · by_cases h0 : k = 0
      · subst h0
        have hl0 : (0 : Int) < s.length := by omega
        have he : symAll s = (isLow (s.getD 0 0) && (s.drop 1).all isNx) := by cases s; exact absurd hlt (by simp); rfl
        simp -implicitDefEqProofs only [go_sem, hlt, hl0]
        refine callF (isLower_c (s.getD 0 0)) (by simp -implicitDefEqProofs only [go_sem]) ?_
        simp -implicitDefEqProofs only [go_sem]
        refine ⟨fun h => ⟨hl0, ?_⟩, fun h => ?_⟩
        · have hi : isLow (s.getD 0 0) = true := by simpa using h
          refine callF (isLower_c (s.getD 0 0)) (by simp -implicitDefEqProofs only [go_sem, hi]) ?_
          simp -implicitDefEqProofs only [go_sem, hi]
          refine ⟨1, ⟨hlt, ?_⟩, by omega, weak_hd (by simp -implicitDefEqProofs only [go_sem]; rw [wrap_in (by omega) (by omega)])⟩
          rw [he, hi]; rfl
        · have : isLow (s.getD 0 0) = false := by simpa using h
          rw [symOk, he, this]; rfl
      · have h1 : ((k : Int) == 0) = false := by simp; omega
        have h2 : (0 : Int) < k := by omega
        have hg : s.getD k 0 = s[k] := by simp [List.getD, hlt]
        rw [if_neg h0, List.drop_eq_getElem_cons hlt, List.all_cons] at hr
        simp -implicitDefEqProofs only [go_sem, hlt, h1, h2]
        refine callF (isLower_c (s.getD k 0)) (by simp -implicitDefEqProofs only [go_sem]) ?_
        simp -implicitDefEqProofs only [go_sem]
        simp only [hg]
        refine ⟨fun h => ⟨hlt, ?_⟩, fun h => ?_⟩
        · refine callF (isDigit_c s[k]) (by simp -implicitDefEqProofs only [go_sem]) ?_
          simp -implicitDefEqProofs only [go_sem]
          simp only [hg]
          refine ⟨fun h' => ⟨hlt, fun h'' => ?_, fun h'' => ⟨k + 1, ⟨hlt, ?_⟩, by omega, weak_hd (by simp -implicitDefEqProofs only [go_sem]; rw [wrap_s (by omega)])⟩⟩, fun h' => ⟨k + 1, ⟨hlt, ?_⟩, by omega, weak_hd (by simp -implicitDefEqProofs only [go_sem]; rw [wrap_s (by omega)])⟩⟩
          · have : isNx s[k] = false := by
              have := u8_eq (b := s[k]) (n := 95) (by omega)
              simp [isNx, isSm] at h h' ⊢
              refine ⟨⟨h, h'⟩, fun e => ?_⟩
              rw [e] at h''
              simp at h''
            rw [symOk, hr, this]; rfl
          · have : isNx s[k] = true := by
              have := u8_eq (b := s[k]) (n := 95) (by omega)
              simp [isNx] at h'' ⊢
              right
              simpa [h''] using this
            rw [hr, this]; rfl
          · have : isNx s[k] = true := by simp [isNx, isSm]; simp at h'; simp [h']
            rw [hr, this]; rfl
        · refine ⟨k + 1, ⟨hlt, ?_⟩, by omega, weak_hd (by simp -implicitDefEqProofs only [go_sem]; rw [wrap_s (by omega)])⟩
          have : isNx s[k] = true := by simp [isNx, isSm]; simp at h; simp [h]
          rw [hr, this]; rfl
    · simp -implicitDefEqProofs only [go_sem, hlt]
      refine callF (within_c s.length 1 6) (by simp -implicitDefEqProofs only [go_sem]) ?_
      simp -implicitDefEqProofs only [go_sem]
      have ha : symAll s = true := by
        by_cases h0 : k = 0
        · have : s = [] := List.length_eq_zero_iff.1 (by omega)
          rw [this]; rfl
        · rw [hr, if_neg h0, List.drop_of_length_le (by omega)]; rfl
      refine ⟨fun h => ?_, fun h => ?_⟩
      · refine callF (reserved_c) (by simp -implicitDefEqProofs only [go_sem]) ?_
        simp -implicitDefEqProofs only [go_sem]
        refine callF (containsStr_c resW s) (by simp -implicitDefEqProofs only [go_sem]) ?_
        simp -implicitDefEqProofs only [go_sem]
        rw [symOk, ha, h]; rfl
      · rw [symOk, ha, h]; rfl
end Go.Proofs.Ytgfjbbbkploonaa
/-
  Contracts of functions of the program and of its laws, over plain data.
  Conditions: those that each theorem names.
-/
namespace Go.Proofs.Ytgfjbbbkploonaa
set_option linter.unusedSimpArgs false
set_option linter.unusedVariables false
set_option maxRecDepth 4000
open Go.RowKit
theorem isUp_of {b : UInt8} (h1 : decide ((b.toNat : Int) < 65) = false) (h2 : decide ((90 : Int) < b.toNat) = false) : isUp b = true := by
  simp [isUp] at *; omega
theorem isUp_no1 {b : UInt8} (h1 : decide ((b.toNat : Int) < 65) = true) : isUp b = false := by
  simp [isUp] at *; omega
theorem isUp_no2 {b : UInt8} (h2 : decide ((90 : Int) < b.toNat) = true) : isUp b = false := by
  simp [isUp] at *; omega
theorem isLow_of {b : UInt8} (h1 : decide ((b.toNat : Int) < 97) = false) (h2 : decide ((122 : Int) < b.toNat) = false) : isLow b = true := by
  simp [isLow] at *; omega
theorem isLow_no1 {b : UInt8} (h1 : decide ((b.toNat : Int) < 97) = true) : isLow b = false := by
  simp [isLow] at *; omega
theorem isLow_no2 {b : UInt8} (h2 : decide ((122 : Int) < b.toNat) = true) : isLow b = false := by
  simp [isLow] at *; omega
theorem okAll_eq {s : Str} (h : 0 < s.length) : okAll s = (isUp (s.getD 0 0) && (s.drop 1).all isSm) := by
  cases s
  · exact absurd h (by simp)
  · rfl
theorem symAll_eq {s : Str} (h : 0 < s.length) : symAll s = (isLow (s.getD 0 0) && (s.drop 1).all isNx) := by
  cases s
  · exact absurd h (by simp)
  · rfl
theorem l2Var_c (s : Str) : FC Try.prog 104 [sD s] [bD (varOk s)] := by
  refine FC_wf (fun hw => ?_) Try.call104
  have hl : s.length ≤ 9223372036854775807 := by simpa [wfDs, wfT] using hw.1
  refine FC_of Try.call104 Try.func104 rfl (by kernel_rfl) (by simp only [rd, List.map_cons, List.map_nil, List.length_cons, List.length_nil, Try.ntmps104]; omega) ?_
  simp -implicitDefEqProofs only [go_sem, Try.results104]
  refine callF (l1In_c s.length 1 4) (by simp -implicitDefEqProofs only [go_sem]) ?_
  simp -implicitDefEqProofs only [go_sem]
  by_cases hb : inB s.length 1 4 = true
  · have hp : 0 < s.length := by simp [inB] at hb; omega
    have hp' : (0 : Int) < s.length := by omega
    have he := okAll_eq hp
    refine ⟨fun h => ⟨hp', fun h1 => ⟨hp', fun h2 => ?_, fun h2 => ?_⟩, fun h1 => ?_⟩, fun h => by simp [hb] at h⟩
    · rw [varOk, he, isUp_no2 h2]; rfl
    · rw [isUp_of h1 h2, Bool.true_and] at he
      refine loop_rule (fun k : Nat => hd [(0, vT (.str s)), (3, vI k)] [] []) (fun k => k ≤ s.length ∧ okAll s = (s.drop k).all isSm) (fun k => s.length - k) 1 (weak_hd ?_) ?_ ?_
      · simp -implicitDefEqProofs only [go_sem]
      · exact ⟨hp, he⟩
      · intro k ⟨hk, hr⟩
        by_cases hlt : k < s.length
        · have hg : s.getD k 0 = s[k] := by simp [List.getD, hlt]
          rw [List.drop_eq_getElem_cons hlt, List.all_cons] at hr
          simp -implicitDefEqProofs only [go_sem, hlt]
          simp only [hg]
          refine callF (l2Small_c s[k]) (by simp -implicitDefEqProofs only [go_sem]) ?_
          simp -implicitDefEqProofs only [go_sem]
          refine ⟨fun h => ?_, fun h => ⟨k + 1, ⟨hlt, ?_⟩, by omega, weak_hd (by simp -implicitDefEqProofs only [go_sem]; rw [wrap_s (by omega)])⟩⟩
          · have : isSm s[k] = false := by simpa using h
            rw [varOk, hr, this]; rfl
          · have : isSm s[k] = true := by simpa using h
            rw [hr, this]; rfl
        · simp -implicitDefEqProofs only [go_sem, hlt]
          rw [varOk, hr, List.drop_of_length_le (by omega), hb]; rfl
    · rw [varOk, he, isUp_no1 h1]; rfl
  · have hb' : inB s.length 1 4 = false := by simpa using hb
    refine ⟨fun h => by simp [hb'] at h, fun h => ?_⟩
    rw [varOk, hb', Bool.and_false]
set_option maxHeartbeats 1000000 in
theorem l2Symbol_c (s : Str) : FC Try.prog 120 [sD s] [bD (symOk s)] := by
  refine FC_wf (fun hw => ?_) Try.call120
  have hl : s.length ≤ 9223372036854775807 := by simpa [wfDs, wfT] using hw.1
  refine FC_of Try.call120 Try.func120 rfl (by kernel_rfl) (by simp only [rd, List.map_cons, List.map_nil, List.length_cons, List.length_nil, Try.ntmps120]; omega) ?_
  simp -implicitDefEqProofs only [go_sem, Try.results120]
  refine callF (l1In_c s.length 1 6) (by simp -implicitDefEqProofs only [go_sem]) ?_
  simp -implicitDefEqProofs only [go_sem]
  by_cases hb : inB s.length 1 6 = true
  · have hp : 0 < s.length := by simp [inB] at hb; omega
    have hp' : (0 : Int) < s.length := by omega
    have he := symAll_eq hp
    refine ⟨fun h => ⟨hp', fun h1 => ⟨hp', fun h2 => ?_, fun h2 => ?_⟩, fun h1 => ?_⟩, fun h => by simp [hb] at h⟩
    · rw [symOk, he, isLow_no2 h2]; rfl
    · rw [isLow_of h1 h2, Bool.true_and] at he
      have leaf : ∀ l, l ∈ resW → (s == l) = true → T.bool false = T.bool (symOk s) := fun l hl e => by
        have : resW.contains s = true := by rw [List.contains_iff_mem, beq_iff_eq.1 e]; exact hl
        rw [symOk, this, Bool.not_true, Bool.and_false]
      refine ⟨fun e => ⟨fun _ => leaf _ (by simp [resW]) e, fun e' => absurd (e.symm.trans e') (by simp)⟩, fun n1 => ?_⟩
      refine ⟨fun e => ⟨fun _ => leaf _ (by simp [resW]) e, fun e' => absurd (e.symm.trans e') (by simp)⟩, fun n2 => ?_⟩
      refine ⟨fun e => ⟨fun _ => leaf _ (by simp [resW]) e, fun e' => absurd (e.symm.trans e') (by simp)⟩, fun n3 => ?_⟩
      refine ⟨fun e => ⟨fun _ => leaf _ (by simp [resW]) e, fun e' => absurd (e.symm.trans e') (by simp)⟩, fun n4 => ?_⟩
      refine ⟨fun e => ⟨fun _ => leaf _ (by simp [resW]) e, fun e' => absurd (e.symm.trans e') (by simp)⟩, fun n5 => ?_⟩
      refine ⟨fun e => ⟨fun _ => leaf _ (by simp [resW]) e, fun e' => absurd (e.symm.trans e') (by simp)⟩, fun n6 => ?_⟩
      refine ⟨fun e => ⟨fun _ => leaf _ (by simp [resW]) e, fun e' => absurd (e.symm.trans e') (by simp)⟩, fun n7 => ?_⟩
      refine ⟨fun e => leaf _ (by simp [resW]) e, fun n8 => ?_⟩
      have hnc : resW.contains s = false := by
        simp only [beq_eq_false_iff_ne, ne_eq] at n1 n2 n3 n4 n5 n6 n7 n8
        rw [Bool.eq_false_iff, ne_eq, List.contains_iff_mem]
        simp only [resW, List.mem_cons, List.not_mem_nil, or_false, not_or]
        exact ⟨n1, n2, n3, n4, n5, n6, n7, n8⟩
      refine loop_rule (fun k : Nat => hd [(0, vT (.str s)), (3, vI k)] [] []) (fun k => k ≤ s.length ∧ symAll s = (s.drop k).all isNx) (fun k => s.length - k) 1 (weak_hd ?_) ?_ ?_
      · simp -implicitDefEqProofs only [go_sem]
      · exact ⟨hp, he⟩
      · intro k ⟨hk, hr⟩
        by_cases hlt : k < s.length
        · have hg : s.getD k 0 = s[k] := by simp [List.getD, hlt]
          rw [List.drop_eq_getElem_cons hlt, List.all_cons] at hr
          simp -implicitDefEqProofs only [go_sem, hlt]
          simp only [hg]
          refine callF (l2Small_c s[k]) (by simp -implicitDefEqProofs only [go_sem]) ?_
          simp -implicitDefEqProofs only [go_sem]
          simp only [hg]
          refine ⟨fun h => ⟨hlt, fun h' => ?_, fun h' => ⟨k + 1, ⟨hlt, ?_⟩, by omega, weak_hd (by simp -implicitDefEqProofs only [go_sem]; rw [wrap_s (by omega)])⟩⟩, fun h => ⟨k + 1, ⟨hlt, ?_⟩, by omega, weak_hd (by simp -implicitDefEqProofs only [go_sem]; rw [wrap_s (by omega)])⟩⟩
          · have : isNx s[k] = false := by
              simp [isNx] at h ⊢
              refine ⟨h, fun e => ?_⟩
              rw [e] at h'
              simp at h'
            rw [symOk, hr, this]; rfl
          · have : isNx s[k] = true := by
              have := u8_eq (b := s[k]) (n := 95) (by omega)
              simp [isNx] at h' ⊢
              right
              simpa [h'] using this
            rw [hr, this]; rfl
          · have : isNx s[k] = true := by simp [isNx]; simp at h; simp [h]
            rw [hr, this]; rfl
        · simp -implicitDefEqProofs only [go_sem, hlt]
          rw [symOk, hr, List.drop_of_length_le (by omega), hb, hnc]; rfl
    · rw [symOk, he, isLow_no1 h1]; rfl
  · have hb' : inB s.length 1 6 = false := by simpa using hb
    refine ⟨fun h => by simp [hb'] at h, fun h => ?_⟩
    rw [symOk, hb', Bool.and_false]; rfl
end Go.Proofs.Ytgfjbbbkploonaa
/-
  Contracts of functions of the program and of its laws, over plain data.
  Conditions: those that each theorem names.
-/
namespace Go.Proofs.Ytgfjbbbkploonaa
set_option linter.unusedSimpArgs false
set_option linter.unusedVariables false
set_option maxRecDepth 4000
open Go.RowKit
def Tm.nodes : Tm → Nat := Tm.fold fun _ _ rs => 1 + rs.sum
theorem Tm.nodes_eq (a : Tm) : a.nodes = 1 + (a.args.map Tm.nodes).sum := Tm.fold_eq _ a
def Tm.depth : Tm → Nat := Tm.fold fun _ _ rs => rs.foldl max 0 + 1
theorem Tm.depth_eq (a : Tm) : a.depth = (a.args.map Tm.depth).foldl max 0 + 1 := Tm.fold_eq _ a
theorem nodes_wt : ∀ a : Tm, a.nodes ≤ 1 + a.wt := by
  refine tm_ind fun n xs ih => ?_
  rw [Tm.nodes_eq, Tm.wt_eq]
  show 1 + (xs.map Tm.nodes).sum ≤ 1 + (n.length + xs.length + (xs.map Tm.wt).sum)
  have : (xs.map Tm.nodes).sum ≤ xs.length + (xs.map Tm.wt).sum := by
    clear n
    induction xs with
    | nil => simp
    | cons x xs ih2 =>
      have h1 := ih x (by simp)
      have h2 := ih2 fun y hy => ih y (by simp [hy])
      simp only [List.map_cons, List.sum_cons, List.length_cons]
      omega
  omega
theorem foldl_max_le {B : Nat} : ∀ (xs : List Nat) (m : Nat), m ≤ B → (∀ x ∈ xs, x ≤ B) → xs.foldl max m ≤ B
  | [], m, h, _ => h
  | x :: xs, m, h, h2 => foldl_max_le xs (max m x) (by have := h2 x (by simp); omega) fun y hy => h2 y (by simp [hy])
theorem depth_nodes : ∀ a : Tm, a.depth ≤ a.nodes := by
  refine tm_ind fun n xs ih => ?_
  rw [Tm.nodes_eq, Tm.depth_eq]
  show (xs.map Tm.depth).foldl max 0 + 1 ≤ 1 + (xs.map Tm.nodes).sum
  have := foldl_max_le (B := (xs.map Tm.nodes).sum) (xs.map Tm.depth) 0 (by omega) fun d hd => by
    obtain ⟨x, hx, rfl⟩ := List.mem_map.1 hd
    exact Nat.le_trans (ih x hx) (mem_sum Tm.nodes xs x hx)
  omega
/-- The size as the program counts it: it stops behind 30. -/
def szL (lim : Int) : Int → List Int → Int
  | n, [] => n
  | n, r :: rs => if n > lim then n else szL lim (n + r) rs
def sizeI : Tm → Int := Tm.fold fun _ _ rs => szL 30 1 rs
theorem sizeI_eq (a : Tm) : sizeI a = szL 30 1 (a.args.map sizeI) := Tm.fold_eq _ a
theorem szL_spec {α : Type} (f : α → Int) (g : α → Nat) (lim : Int) : ∀ (xs : List α) (n : Int), 0 ≤ n → (∀ x ∈ xs, 1 ≤ f x ∧ f x ≤ g x ∧ (f x ≤ lim → f x = g x)) → szL lim n (xs.map f) ≤ n + (xs.map g).sum ∧ n ≤ szL lim n (xs.map f) ∧ (szL lim n (xs.map f) ≤ lim → szL lim n (xs.map f) = n + (xs.map g).sum)
  | [], n, _, _ => by simp [szL]
  | x :: xs, n, hn, h => by
    obtain ⟨h1, h2, h3⟩ := h x (by simp)
    obtain ⟨k1, k2, k3⟩ := szL_spec f g lim xs (n + f x) (by omega) fun y hy => h y (by simp [hy])
    simp only [List.map_cons, szL, List.sum_cons]
    split
    · refine ⟨by omega, by omega, fun hh => by omega⟩
    · refine ⟨by omega, by omega, fun hh => ?_⟩
      have := k3 hh
      rw [this]
      have : f x = g x := h3 (by omega)
      omega
theorem sizeI_spec : ∀ a : Tm, 1 ≤ sizeI a ∧ sizeI a ≤ a.nodes ∧ (sizeI a ≤ 30 → sizeI a = a.nodes) := by
  refine tm_ind fun n xs ih => ?_
  rw [sizeI_eq, Tm.nodes_eq]
  show 1 ≤ szL 30 1 (xs.map sizeI) ∧ szL 30 1 (xs.map sizeI) ≤ ((1 + (xs.map Tm.nodes).sum : Nat) : Int) ∧ _
  obtain ⟨k1, k2, k3⟩ := szL_spec sizeI Tm.nodes 30 xs 1 (by omega) ih
  refine ⟨k2, by omega, fun h => ?_⟩
  have := k3 h
  show szL 30 1 (xs.map sizeI) = _
  rw [this]; show _ = ((1 + (xs.map Tm.nodes).sum : Nat) : Int); omega
theorem sizeI_le (a : Tm) : decide (sizeI a ≤ 30) = decide (a.nodes ≤ 30) := by
  obtain ⟨h1, h2, h3⟩ := sizeI_spec a
  rw [decide_eq_decide]
  exact ⟨fun h => by have := h3 h; omega, fun h => by omega⟩
def dsum {α : Type} (f : α → Nat) (xs : List α) (k : Nat) : Nat := ((xs.drop k).map f).sum
theorem dsum_zero {α : Type} (f : α → Nat) (xs : List α) : dsum f xs 0 = (xs.map f).sum := by simp [dsum]
theorem dsum_at {α : Type} (f : α → Nat) (xs : List α) (k : Nat) (h : k < xs.length) : dsum f xs k = f xs[k] + dsum f xs (k + 1) := by
  unfold dsum
  rw [List.drop_eq_getElem_cons h, List.map_cons, List.sum_cons]

set_option maxHeartbeats 400000 in
theorem size_of (a : Tm) (hs : a.wt ≤ 1099511627776) (H : ∀ x ∈ a.args, FC Try.prog 112 [tmD x] [iD (sizeI x)]) : FC Try.prog 112 [tmD a] [iD (sizeI a)] := by
  refine FC_wf (fun hw => ?_) Try.call112
  have hl : a.args.length ≤ 9223372036854775807 := by rw [Tm.wt_eq] at hs; omega
  have hn := nodes_wt a
  have hN := a.nodes_eq
  simp only [tmD, tmC_eq]
  refine FC_of Try.call112 Try.func112 rfl (by kernel_rfl) (by simp only [rd, List.map_cons, List.map_nil, List.length_cons, List.length_nil, Try.ntmps112]; omega) ?_
  simp -implicitDefEqProofs only [go_sem, Try.results112]
  refine loop_rule (fun p : Nat × Int => hd [(3, vI p.2), (7, vT (tmS a.args)), (8, vI a.args.length), (9, vI p.1)] [] []) (fun p => p.1 ≤ a.args.length ∧ sizeI a = szL 30 p.2 ((a.args.drop p.1).map sizeI) ∧ 1 ≤ p.2 ∧ p.2 + dsum Tm.nodes a.args p.1 ≤ a.nodes) (fun p => a.args.length - p.1) (0, 1) (weak_hd ?_) ?_ ?_
  · simp -implicitDefEqProofs only [go_sem]
  · exact ⟨by simp, by rw [sizeI_eq]; rfl, by omega, by rw [dsum_zero]; omega⟩
  · intro ⟨k, n⟩ ⟨hk, hr, h1, h2⟩
    simp only at hk hr h1 h2
    by_cases hlt : k < a.args.length
    · have hd := dsum_at Tm.nodes a.args k hlt
      obtain ⟨s1, s2, s3⟩ := sizeI_spec a.args[k]
      rw [List.drop_eq_getElem_cons hlt, List.map_cons, szL] at hr
      simp -implicitDefEqProofs only [go_sem, getD_at, hlt, tmC_eq]
      refine ⟨fun h => ?_, fun h => ?_⟩
      · rw [hr, if_pos (by simpa using h)]
      · refine callF (H a.args[k] (List.getElem_mem hlt)) (by simp -implicitDefEqProofs only [go_sem, tmC_eq]) ?_
        simp -implicitDefEqProofs only [go_sem, tmC_eq]
        rw [if_neg (by simpa using h)] at hr
        exact ⟨(k + 1, n + sizeI a.args[k]), ⟨hlt, hr, by simp only; omega, by simp only; omega⟩, by simp only; omega, weak_hd (by simp -implicitDefEqProofs only [go_sem]; rw [wrap_s (by omega), wrap_in (by omega) (by omega)]; exact ⟨rfl, rfl⟩)⟩
    · simp -implicitDefEqProofs only [go_sem, hlt]
      rw [hr, List.drop_of_length_le (by omega)]; rfl
theorem size_c : ∀ a : Tm, a.wt ≤ 1099511627776 → FC Try.prog 112 [tmD a] [iD (sizeI a)] :=
  tm_ind fun n xs ih hs => size_of (.mk n xs) hs fun x hx => ih x hx (by
    have := Tm.wt_eq (.mk n xs)
    have := mem_sum Tm.wt xs x hx
    simp only [Tm.args] at *; omega)
set_option maxHeartbeats 400000 in
theorem depth_of (a : Tm) (hs : a.wt ≤ 1099511627776) (H : ∀ x ∈ a.args, FC Try.prog 113 [tmD x] [iD x.depth]) : FC Try.prog 113 [tmD a] [iD a.depth] := by
  have hl : a.args.length ≤ 9223372036854775807 := by rw [Tm.wt_eq] at hs; omega
  have hn := nodes_wt a
  have hdn := depth_nodes a
  have hD := a.depth_eq
  simp only [tmD, tmC_eq]
  refine FC_of Try.call113 Try.func113 rfl (by kernel_rfl) (by simp only [rd, List.map_cons, List.map_nil, List.length_cons, List.length_nil, Try.ntmps113]; omega) ?_
  simp -implicitDefEqProofs only [go_sem, Try.results113]
  refine loop_rule (fun p : Nat × Nat => hd [(3, vI p.2), (7, vT (tmS a.args)), (8, vI a.args.length), (9, vI p.1)] [] []) (fun p => p.1 ≤ a.args.length ∧ a.depth = ((a.args.drop p.1).map Tm.depth).foldl max p.2 + 1) (fun p => a.args.length - p.1) (0, 0) (weak_hd ?_) ?_ ?_
  · simp -implicitDefEqProofs only [go_sem]
  · exact ⟨by simp, hD⟩
  · intro ⟨k, n⟩ ⟨hk, hr⟩
    simp only at hk hr
    by_cases hlt : k < a.args.length
    · rw [List.drop_eq_getElem_cons hlt, List.map_cons, List.foldl_cons] at hr
      simp -implicitDefEqProofs only [go_sem, getD_at, hlt, tmC_eq]
      refine callF (H a.args[k] (List.getElem_mem hlt)) (by simp -implicitDefEqProofs only [go_sem, tmC_eq]) ?_
      simp -implicitDefEqProofs only [go_sem, tmC_eq]
      exact ⟨(k + 1, max n a.args[k].depth), ⟨hlt, hr⟩, by simp only; omega, weak_hd (by simp -implicitDefEqProofs only [go_sem]; rw [wrap_s (by omega)]; exact ⟨by congr 1; omega, rfl⟩)⟩
    · simp -implicitDefEqProofs only [go_sem, hlt]
      rw [List.drop_of_length_le (by omega)] at hr
      simp only [List.map_nil, List.foldl_nil] at hr
      rw [hr, wrap_s (by omega)]
theorem depth_c : ∀ a : Tm, a.wt ≤ 1099511627776 → FC Try.prog 113 [tmD a] [iD a.depth] :=
  tm_ind fun n xs ih hs => depth_of (.mk n xs) hs fun x hx => ih x hx (by
    have := Tm.wt_eq (.mk n xs)
    have := mem_sum Tm.wt xs x hx
    simp only [Tm.args] at *; omega)
def smallT (a : Tm) : Bool := decide (a.nodes ≤ 30) && decide (a.depth ≤ 8)
theorem isSmall_c (a : Tm) (hs : a.wt ≤ 1099511627776) : FC Try.prog 98 [tmD a] [bD (smallT a)] := by
  simp only [tmD, tmC_eq]
  refine FC_of Try.call98 Try.func98 rfl (by kernel_rfl) (by simp only [rd, List.map_cons, List.map_nil, List.length_cons, List.length_nil, Try.ntmps98]; omega) ?_
  simp -implicitDefEqProofs only [go_sem, Try.results98]
  refine callF (size_c a hs) (by simp -implicitDefEqProofs only [go_sem, tmC_eq]) ?_
  simp -implicitDefEqProofs only [go_sem, tmC_eq]
  rw [sizeI_le]
  refine ⟨fun h => ?_, fun h => ?_⟩
  · refine callF (depth_c a hs) (by simp -implicitDefEqProofs only [go_sem, tmC_eq]) ?_
    simp -implicitDefEqProofs only [go_sem, tmC_eq]
    rw [smallT, h, Bool.true_and]
    congr 1
    rw [decide_eq_decide]; omega
  · rw [smallT, h]; rfl
end Go.Proofs.Ytgfjbbbkploonaa
/-
  Contracts of functions of the program and of its laws, over plain data.
  Conditions: those that each theorem names.
-/
namespace Go.Proofs.Ytgfjbbbkploonaa
set_option linter.unusedSimpArgs false
set_option linter.unusedVariables false
set_option maxRecDepth 4000
open Go.RowKit
theorem VDs_caps (σ : St) (caps : List T) : VDs σ (caps.map fun t => .one (.t t)) (caps.map .one) = True := by
  induction caps with
  | nil => simp [VDs]
  | cons t ts ih => rw [List.map_cons, List.map_cons, VDs_cons, ih]; simp [VD_one, CT_t]
attribute [go_sem] VDs_caps
def idxP {α : Type} (xs : List α) (p : α → Bool) : Int := if xs.any p then xs.findIdx p else -1
theorem idxP_found {α : Type} {xs : List α} {p : α → Bool} {k : Nat} (hk : k < xs.length) (hn : ∀ x ∈ xs.take k, p x = false) (h : p xs[k] = true) : idxP xs p = k := by
  have ha : xs.any p = true := List.any_eq_true.2 ⟨xs[k], List.getElem_mem hk, h⟩
  have hf : xs.findIdx p = k := (List.findIdx_eq hk).2 ⟨h, fun j hj => hn _ (by
    rw [List.mem_take_iff_getElem]; exact ⟨j, by omega, rfl⟩)⟩
  rw [idxP, if_pos ha, hf]
theorem idxP_none {α : Type} {xs : List α} {p : α → Bool} (hn : ∀ x ∈ xs, p x = false) : idxP xs p = -1 := by
  have ha : xs.any p = false := by rw [List.any_eq_false]; exact fun x hx => by simp [hn x hx]
  rw [idxP, ha]; rfl
theorem idxP_any {α : Type} (xs : List α) (p : α → Bool) : decide (0 ≤ idxP xs p) = xs.any p := by
  unfold idxP
  cases xs.any p <;> simp
theorem idxP_ge {α : Type} (xs : List α) (p : α → Bool) : decide (idxP xs p ≥ 0) = xs.any p := idxP_any xs p
theorem take_all_succ {α : Type} {xs : List α} {p : α → Bool} {k : Nat} (hk : k < xs.length) (hn : ∀ x ∈ xs.take k, p x = false) (h : p xs[k] = false) : ∀ x ∈ xs.take (k + 1), p x = false := by
  rw [List.take_succ_eq_append_getElem hk]
  intro x hx
  rcases List.mem_append.1 hx with hx | hx
  · exact hn x hx
  · rw [List.mem_singleton.1 hx]; exact h
theorem indexFuncTerm_c (xs : List Tm) (p : Tm → Bool) (g : FuncId) (caps : List T) (H : ∀ x ∈ xs, FC Try.prog g (tmD x :: caps.map .one) [bD (p x)]) : FC Try.prog 127 [.one (tmS xs), .one (.fn g caps)] [iD (idxP xs p)] := by
  refine FC_wf (fun hw => ?_) Try.call127
  have hl : xs.length ≤ 9223372036854775807 := by simpa [wfDs, wfT] using hw.1.1
  refine FC_of Try.call127 Try.func127 rfl (by kernel_rfl) (by simp only [rd, List.map_cons, List.map_nil, List.length_cons, List.length_nil, Try.ntmps127]; omega) ?_
  simp -implicitDefEqProofs only [go_sem, Try.results127]
  refine loop_rule (fun k : Nat => hd [(0, vT (tmS xs)), (1, vT (.fn g caps)), (7, vI xs.length), (8, vI k)] [] []) (fun k => k ≤ xs.length ∧ ∀ x ∈ xs.take k, p x = false) (fun k => xs.length - k) 0 (weak_hd ?_) ?_ ?_
  · simp -implicitDefEqProofs only [go_sem]
  · simp
  · intro k ⟨hk, hr⟩
    by_cases hlt : k < xs.length
    · simp -implicitDefEqProofs only [go_sem, getD_at, hlt, tmC_eq]
      refine callF (H xs[k] (List.getElem_mem hlt)) (by simp -implicitDefEqProofs only [go_sem, tmC_eq]) ?_
      simp -implicitDefEqProofs only [go_sem, tmC_eq]
      refine ⟨fun h => ?_, fun h => ⟨k + 1, ⟨hlt, take_all_succ hlt hr h⟩, by omega, weak_hd (by simp -implicitDefEqProofs only [go_sem]; rw [wrap_s (by omega)])⟩⟩
      rw [idxP_found hlt hr h]
    · simp -implicitDefEqProofs only [go_sem, hlt]
      rw [List.take_of_length_le (by omega)] at hr
      rw [idxP_none hr]
theorem containsFuncTerm_c (xs : List Tm) (p : Tm → Bool) (g : FuncId) (caps : List T) (H : ∀ x ∈ xs, FC Try.prog g (tmD x :: caps.map .one) [bD (p x)]) : FC Try.prog 114 [.one (tmS xs), .one (.fn g caps)] [bD (xs.any p)] := by
  refine FC_of Try.call114 Try.func114 rfl (by kernel_rfl) (by simp only [rd, List.map_cons, List.map_nil, List.length_cons, List.length_nil, Try.ntmps114]; omega) ?_
  simp -implicitDefEqProofs only [go_sem, Try.results114]
  refine callF (indexFuncTerm_c xs p g caps H) (by simp -implicitDefEqProofs only [go_sem]) ?_
  simp -implicitDefEqProofs only [go_sem]
  rw [idxP_any]
theorem indexFuncFormula_c (xs : List Fm) (p : Fm → Bool) (g : FuncId) (caps : List T) (H : ∀ x ∈ xs, FC Try.prog g (fmD x :: caps.map .one) [bD (p x)]) : FC Try.prog 51 [.one (fmS xs), .one (.fn g caps)] [iD (idxP xs p)] := by
  refine FC_wf (fun hw => ?_) Try.call51
  have hl : xs.length ≤ 9223372036854775807 := by simpa [wfDs, wfT] using hw.1.1
  refine FC_of Try.call51 Try.func51 rfl (by kernel_rfl) (by simp only [rd, List.map_cons, List.map_nil, List.length_cons, List.length_nil, Try.ntmps51]; omega) ?_
  simp -implicitDefEqProofs only [go_sem, Try.results51]
  refine loop_rule (fun k : Nat => hd [(0, vT (fmS xs)), (1, vT (.fn g caps)), (7, vI xs.length), (8, vI k)] [] []) (fun k => k ≤ xs.length ∧ ∀ x ∈ xs.take k, p x = false) (fun k => xs.length - k) 0 (weak_hd ?_) ?_ ?_
  · simp -implicitDefEqProofs only [go_sem]
  · simp
  · intro k ⟨hk, hr⟩
    by_cases hlt : k < xs.length
    · simp -implicitDefEqProofs only [go_sem, getD_at, hlt, fmC_eq, tmC_eq]
      refine callF (H xs[k] (List.getElem_mem hlt)) (by simp -implicitDefEqProofs only [go_sem, fmC_eq, tmC_eq]) ?_
      simp -implicitDefEqProofs only [go_sem, fmC_eq, tmC_eq]
      refine ⟨fun h => ?_, fun h => ⟨k + 1, ⟨hlt, take_all_succ hlt hr h⟩, by omega, weak_hd (by simp -implicitDefEqProofs only [go_sem]; rw [wrap_s (by omega)])⟩⟩
      rw [idxP_found hlt hr h]
    · simp -implicitDefEqProofs only [go_sem, hlt]
      rw [List.take_of_length_le (by omega)] at hr
      rw [idxP_none hr]
theorem containsFuncFormula_c (xs : List Fm) (p : Fm → Bool) (g : FuncId) (caps : List T) (H : ∀ x ∈ xs, FC Try.prog g (fmD x :: caps.map .one) [bD (p x)]) : FC Try.prog 29 [.one (fmS xs), .one (.fn g caps)] [bD (xs.any p)] := by
  refine FC_of Try.call29 Try.func29 rfl (by kernel_rfl) (by simp only [rd, List.map_cons, List.map_nil, List.length_cons, List.length_nil, Try.ntmps29]; omega) ?_
  simp -implicitDefEqProofs only [go_sem, Try.results29]
  refine callF (indexFuncFormula_c xs p g caps H) (by simp -implicitDefEqProofs only [go_sem]) ?_
  simp -implicitDefEqProofs only [go_sem]
  rw [idxP_any]
end Go.Proofs.Ytgfjbbbkploonaa
/-
  slices.EqualFunc.
  Conditions: none.
-/
namespace Go.Proofs.Ytgfjbbbkploonaa
set_option linter.unusedSimpArgs false
set_option linter.unusedVariables false
set_option maxRecDepth 4000
open Go.RowKit
/-- Two lists, member by member. -/
def eqL {α : Type} (p : α → α → Bool) : List α → List α → Bool
  | [], [] => true
  | a :: xs, b :: ys => p a b && eqL p xs ys
  | _, _ => false
theorem eqL_len {α : Type} {p : α → α → Bool} : ∀ {xs ys : List α}, xs.length ≠ ys.length → eqL p xs ys = false
  | [], [], h => absurd rfl h
  | [], _ :: _, _ => rfl
  | _ :: _, [], _ => rfl
  | a :: xs, b :: ys, h => by simp only [eqL]; rw [eqL_len (by simpa using h), Bool.and_false]
theorem eqL_same {α : Type} {p : α → α → Bool} : ∀ {xs ys : List α}, (∀ x ∈ xs, ∀ y, p x y = same x y) → eqL p xs ys = same xs ys
  | [], [], _ => same_nil.symm
  | [], _ :: _, _ => (same_no.2 (by simp)).symm
  | _ :: _, [], _ => (same_no.2 (by simp)).symm
  | a :: xs, b :: ys, h => by simp only [eqL]; rw [same_cons, h a (by simp) b, eqL_same fun x hx y => h x (by simp [hx]) y]
set_option maxRecDepth 10000 in
set_option maxHeartbeats 400000 in
theorem equalFuncTerm_c (xs ys : List Tm) (p : Tm → Tm → Bool) (g : FuncId) (caps : List T) (H : ∀ x ∈ xs, ∀ y ∈ ys, FC Try.prog g (tmD x :: tmD y :: caps.map .one) [bD (p x y)]) : FC Try.prog 126 [.one (tmS xs), .one (tmS ys), .one (.fn g caps)] [bD (eqL p xs ys)] := by
  refine FC_wf (fun hw => ?_) Try.call126
  have hl : xs.length ≤ 9223372036854775807 := by simpa [wfDs, wfT] using hw.1.1
  have hl2 : ys.length ≤ 9223372036854775807 := by simpa [wfDs, wfT] using hw.2.1.1
  refine FC_of Try.call126 Try.func126 rfl (by kernel_rfl) (by simp only [rd, List.map_cons, List.map_nil, List.length_cons, List.length_nil, Try.ntmps126]; omega) ?_
  simp -implicitDefEqProofs only [go_sem, Try.results126]
  refine ⟨fun h => ?_, fun h => ?_⟩
  · rw [eqL_len (by rintro e; simp [e] at h)]
  · have hlen : xs.length = ys.length := by simp at h; omega
    refine loop_rule (fun k : Nat => hd [(1, vT (tmS ys)), (2, .one (.t (.fn g caps))), (15, vT (tmS xs)), (16, vI xs.length), (17, vI k)] [] []) (fun k => k ≤ xs.length ∧ eqL p xs ys = eqL p (xs.drop k) (ys.drop k)) (fun k => xs.length - k) 0 (weak_hd ?_) ?_ ?_
    · simp -implicitDefEqProofs only [go_sem]
    · simp
    · intro k ⟨hk, hr⟩
      by_cases hlt : k < xs.length
      · have hk2 : k < ys.length := by omega
        simp -implicitDefEqProofs only [go_sem, List.length_map, getD_at, hlt, hk2, tmC_eq]
        refine callF (H xs[k] (List.getElem_mem hlt) ys[k] (List.getElem_mem hk2)) (by simp -implicitDefEqProofs only [go_sem, tmC_eq]) ?_
        simp -implicitDefEqProofs only [go_sem, tmC_eq]
        rw [List.drop_eq_getElem_cons hlt, List.drop_eq_getElem_cons hk2, eqL] at hr
        refine ⟨fun h => ?_, fun h => ?_⟩
        · rw [hr, show p xs[k] ys[k] = false by simpa using h]; rfl
        · rw [show p xs[k] ys[k] = true by simpa using h, Bool.true_and] at hr
          rw [wrap_s (by omega)]
          exact ⟨k + 1, ⟨by omega, hr⟩, by omega, weak_hd (by simp -implicitDefEqProofs only [go_sem])⟩
      · simp -implicitDefEqProofs only [go_sem, List.length_map, hlt]
        rw [hr, List.drop_of_length_le (by omega), List.drop_of_length_le (by omega)]; rfl
set_option maxRecDepth 10000 in
set_option maxHeartbeats 400000 in
theorem equalFuncFormula_c (xs ys : List Fm) (p : Fm → Fm → Bool) (g : FuncId) (caps : List T) (H : ∀ x ∈ xs, ∀ y ∈ ys, FC Try.prog g (fmD x :: fmD y :: caps.map .one) [bD (p x y)]) : FC Try.prog 111 [.one (fmS xs), .one (fmS ys), .one (.fn g caps)] [bD (eqL p xs ys)] := by
  refine FC_wf (fun hw => ?_) Try.call111
  have hl : xs.length ≤ 9223372036854775807 := by simpa [wfDs, wfT] using hw.1.1
  have hl2 : ys.length ≤ 9223372036854775807 := by simpa [wfDs, wfT] using hw.2.1.1
  refine FC_of Try.call111 Try.func111 rfl (by kernel_rfl) (by simp only [rd, List.map_cons, List.map_nil, List.length_cons, List.length_nil, Try.ntmps111]; omega) ?_
  simp -implicitDefEqProofs only [go_sem, Try.results111]
  refine ⟨fun h => ?_, fun h => ?_⟩
  · rw [eqL_len (by rintro e; simp [e] at h)]
  · have hlen : xs.length = ys.length := by simp at h; omega
    refine loop_rule (fun k : Nat => hd [(1, vT (fmS ys)), (2, .one (.t (.fn g caps))), (15, vT (fmS xs)), (16, vI xs.length), (17, vI k)] [] []) (fun k => k ≤ xs.length ∧ eqL p xs ys = eqL p (xs.drop k) (ys.drop k)) (fun k => xs.length - k) 0 (weak_hd ?_) ?_ ?_
    · simp -implicitDefEqProofs only [go_sem]
    · simp
    · intro k ⟨hk, hr⟩
      by_cases hlt : k < xs.length
      · have hk2 : k < ys.length := by omega
        simp -implicitDefEqProofs only [go_sem, List.length_map, getD_at, hlt, hk2, fmC_eq, tmC_eq]
        refine callF (H xs[k] (List.getElem_mem hlt) ys[k] (List.getElem_mem hk2)) (by simp -implicitDefEqProofs only [go_sem, fmC_eq, tmC_eq]) ?_
        simp -implicitDefEqProofs only [go_sem, fmC_eq, tmC_eq]
        rw [List.drop_eq_getElem_cons hlt, List.drop_eq_getElem_cons hk2, eqL] at hr
        refine ⟨fun h => ?_, fun h => ?_⟩
        · rw [hr, show p xs[k] ys[k] = false by simpa using h]; rfl
        · rw [show p xs[k] ys[k] = true by simpa using h, Bool.true_and] at hr
          rw [wrap_s (by omega)]
          exact ⟨k + 1, ⟨by omega, hr⟩, by omega, weak_hd (by simp -implicitDefEqProofs only [go_sem])⟩
      · simp -implicitDefEqProofs only [go_sem, List.length_map, hlt]
        rw [hr, List.drop_of_length_le (by omega), List.drop_of_length_le (by omega)]; rfl
end Go.Proofs.Ytgfjbbbkploonaa
