/-
  The walk over plain data is sound: the rest of the operations, and the steps put together.
  Conditions: none.
-/
import Derived.Test.YtgfjbbbkploonaaSxG
namespace Go.Proofs.Ytgfjbbbkploonaa
set_option linter.unusedSimpArgs false
set_option linter.unusedVariables false
open Go.RowKit
variable {P : Program}

theorem sem_nilCheck {o : Oper} {σ : St} {x : Operand} (ho : o.op = .nilCheck x) (hx : (∃ b p, σ.get P 0 x = .one (.bx b p)) ∨ (∃ cs p, σ.get P 0 x = .one (.el cs p)) ∨ (∃ e s z i p, σ.get P 0 x = .one (.eo e s z i p)) ∨ (∃ cs, σ.get P 0 x = .one (.t (.ptr cs))) ∨ (∃ f caps, σ.get P 0 x = .one (.fn f caps))) :
    StepSem P o σ (σ.put o.dst (σ.get P 0 x)) :=
  StepSem.value fun n0 N g a w hR => by
    have hv := hR.get P 0 x
    refine ⟨a.eval x, ?_, hv⟩
    unfold execOp
    simp only [ho]
    rcases hx with ⟨b, p, h⟩ | ⟨cs, p, h⟩ | ⟨e, s, z, i, p, h⟩ | ⟨cs, h⟩ | ⟨f, caps, h⟩ <;> rw [h] at hv
    · rw [hv.1]; rfl
    · obtain ⟨b, q, k1, _⟩ := hv; rw [k1]; rfl
    · obtain ⟨b, q, _, _, k1, _⟩ := hv; rw [k1]; rfl
    · simp only [VR, CR, RepV] at hv; obtain ⟨b, q, k1, _⟩ := hv; rw [k1]; rfl
    · rw [hv.1]; rfl

theorem intT_eq {t : TypeId} {k : IntKind} (h : intT P t = some k) : P.underlying t = some (.int k) := by
  unfold intT at h
  split at h
  · rename_i k' hu; cases h; exact hu
  · cases h
theorem sem_convert {o : Oper} {σ : St} {s d : TypeId} {x : Operand} {ks k k' : IntKind} {n : Int} (ho : o.op = .convert s d x) (h1 : intT P s = some ks) (h2 : intT P d = some k) (hx : σ.get P s x = .one (.t (.int k' n))) :
    StepSem P o σ (σ.put o.dst (.one (.t (.int k (k.wrap n))))) :=
  StepSem.value fun n0 N g a w hR => by
    have hv := hR.get P s x
    rw [hx] at hv
    simp only [VR, CR, RepV] at hv
    refine ⟨.int k (k.wrap n), ?_, show CR σ g w _ _ from int_cr _ _⟩
    unfold execOp
    simp only [ho]
    simp [convert, run_underlying (intT_eq h1), run_underlying (intT_eq h2), hv.1, Conv.intToInt]

theorem boxesOf_run {n0 : Nat → Prop} {N : Nat} {σ : St} {g : Gh} {a : Act} {w : World} (hR : Rel n0 N σ g a w) : ∀ (l : List Operand) (bs : List Nat), boxesOf (σ.get P 0) l = some bs → l.map a.eval = bs.map (fun b => Value.pointer (some ⟨g.β b, 0, none⟩)) ∧ ∀ b ∈ bs, σ.bx b ≠ none
  | [], bs, h => by cases h; simp
  | x :: l, bs, h => by
    unfold boxesOf at h
    split at h
    · rename_i b hx
      obtain ⟨bs', h1, rfl⟩ := Option.map_eq_some_iff.1 h
      obtain ⟨i1, i2⟩ := boxesOf_run hR l bs' h1
      have hv := hR.get P 0 x
      rw [hx] at hv
      refine ⟨by simp [i1, hv.1], fun c hc => ?_⟩
      rcases List.mem_cons.1 hc with rfl | hc
      · exact hv.2
      · exact i2 c hc
    · cases h
theorem sem_makeFunc {o : Oper} {σ : St} {f : FuncId} {first captured : Array Operand} {bs : List Nat} (ho : o.op = .makeFunc (.func f) first captured) (h0 : first.size = 0)
    (h : boxesOf (σ.get P 0) captured.toList = some bs) : StepSem P o σ (σ.put o.dst (.one (.fn f bs))) :=
  StepSem.value fun n0 N g a w hR => by
    obtain ⟨k1, k2⟩ := boxesOf_run hR _ _ h
    have hf : first = #[] := Array.eq_empty_of_size_eq_zero h0
    subst hf
    have hc : captured.map a.eval = ⟨bs.map fun b => .pointer (some ⟨g.β b, 0, none⟩)⟩ := by
      apply Array.ext'
      rw [Array.toList_map, k1]
    refine ⟨.func (.func f) #[] ⟨bs.map fun b => .pointer (some ⟨g.β b, 0, none⟩)⟩, ?_, rfl, k2⟩
    unfold execOp
    simp only [ho]
    simp only [Instr.makeFunc, Sem.run_bind, Sem.run_pure, Result.andThen, hc]
    simp

theorem not_tup {x : V} (h : x.isTup = false) : ∀ xs, x ≠ .tup xs := fun xs e => by subst e; cases h
theorem zip_step (cells : Array Value) (off : Nat) : ∀ (l : List Value) (k : Nat) (cs : Array Value), off + k + l.length ≤ cs.size →
    ((l.zipIdx k).foldl (fun cs (c, j) => cs.setIfInBounds (off + j) c) cs).toList = cs.toList.take (off + k) ++ l ++ cs.toList.drop (off + k + l.length)
  | [], k, cs, _ => by simp
  | v :: l, k, cs, h => by
    simp only [List.zipIdx_cons, List.foldl_cons]
    rw [zip_step cells off l (k + 1) _ (by simp at h ⊢; omega)]
    simp only [Array.toList_setIfInBounds, List.length_cons]
    have := list_seg_step cs.toList (off + k) v l (by simp at h ⊢; omega)
    rw [show off + (k + 1) = off + k + 1 by omega]
    exact this

theorem setR_array (cs : Array Value) (q : Nat) (l : List Value) (h : q + l.length ≤ cs.size) : ((l.toArray.zipIdx).foldl (fun cs (c, j) => cs.setIfInBounds (q + j) c) cs).toList = cs.toList.take q ++ l ++ cs.toList.drop (q + l.length) := by
  rw [← Array.foldl_toList]
  have := zip_step cs q l 0 cs (by simpa using h)
  simpa using this
theorem Rel.vcells {n0 : Nat → Prop} {N : Nat} {σ : St} {g : Gh} {a : Act} {w : World} (hR : Rel n0 N σ g a w) (ty : TypeId) (x : Operand) (h1 : (σ.get P ty x).cells.all C.good = true) (h2 : (σ.get P ty x).isTup = false) :
    CRs σ g w (σ.get P ty x).cells (a.eval x).cells.toList ∧ ∀ u ∈ (a.eval x).cells.toList, u.oneCell' = true := hR.cells (hR.get P ty x) (not_tup h2) h1
/-- Filling a struct's parts. -/
theorem fill_run {n0 : Nat → Prop} {N : Nat} {σ : St} {g : Gh} {a : Act} {w : World} (hR : Rel n0 N σ g a w) (t : TypeId) (pls : List (Nat × Nat)) : ∀ (parts : List (Nat × Operand)) (cs cs' : List C) (vs : Array Value), CRs σ g w cs vs.toList → buildC P t pls (σ.get P) parts cs = some cs' →
    ∃ vs', Instr.fill (pls.toArray[·]?) vs (parts.map fun (i, x) => (i, a.eval x)) = some vs' ∧ CRs σ g w cs' vs'.toList
  | [], cs, cs', vs, hc, h => by cases h; exact ⟨vs, rfl, hc⟩
  | (i, x) :: rest, cs, cs', vs, hc, h => by
    unfold buildC at h
    generalize ftyT P t i = ty at h
    split at h
    · rename_i q n hp
      split at h
      · rename_i hh
        obtain ⟨h1, h2, h3, h4⟩ := hh
        obtain ⟨c1, c2⟩ := hR.vcells ty x h3 h4
        generalize hus : (a.eval x).cells = us at c1 c2
        generalize hxs : (σ.get P ty x).cells = xs at c1 c2 h1 h
        have hl := c1.len
        have hvl := hc.len
        have hsz : us.size = n := by rw [← h1, ← hl]; simp
        have hset := setR_array vs q us.toList (by simp at hvl hl ⊢; omega)
        have hcr : CRs σ g w (setR cs q xs) (((us.toList.toArray.zipIdx).foldl (fun cs (c, j) => cs.setIfInBounds (q + j) c) vs).toList) := by
          rw [hset]; exact hc.setR q c1
        obtain ⟨vs', k1, k2⟩ := fill_run hR t pls rest _ cs' _ hcr h
        refine ⟨vs', ?_, k2⟩
        have hpa : pls.toArray[i]? = some (q, n) := by simpa using hp
        have hcond : ¬ (us.size ≠ n || q + us.size > vs.size) = true := by
          have : vs.size = cs.length := by simpa using hvl
          simp [hsz]; omega
        simp only [List.map_cons, Instr.fill, hpa, hus, if_neg hcond]
        simpa using k1
      · cases h
    · cases h
theorem built_of {t : TypeId} {pls : List (Nat × Nat)} (h : plsT P t = some pls) {z : List C} (hz : zeroT P t = some z) (parts : List (Nat × Value)) : ∃ zv : Value, (∀ σ g w, CRs σ g w z zv.cells.toList) ∧ P.built t parts = Instr.fill (pls.toArray[·]?) zv.cells parts := by
  obtain ⟨i, zv, h1, h2, h3⟩ := zeroT_eq hz
  refine ⟨zv, h3, ?_⟩
  unfold plsT at h
  split at h
  · rename_i fs hu
    unfold Program.built
    simp only [h1, hu, h2, h]
  · cases h
theorem sem_build {o : Oper} {σ : St} {t : TypeId} {parts : Array (Nat × Operand)} {pls : List (Nat × Nat)} {z cs : List C} (ho : o.op = .build t parts) (h1 : plsT P t = some pls) (h2 : zeroT P t = some z)
    (h3 : buildC P t pls (σ.get P) parts.toList z = some cs) : StepSem P o σ (σ.put o.dst (.agg cs)) :=
  StepSem.value fun n0 N g a w hR => by
    obtain ⟨zv, k1, k2⟩ := built_of h1 h2 (parts.map fun (i, x) => (i, a.eval x)).toList
    obtain ⟨vs', k3, k4⟩ := fill_run hR t pls parts.toList z cs zv.cells (k1 _ _ _) h3
    refine ⟨.agg vs', ?_, vs'.toList, by simp, k4⟩
    unfold execOp
    simp only [ho]
    have hb : P.built t (parts.map fun (i, x) => (i, a.eval x)).toList = some vs' := by rw [k2]; rw [Array.toList_map]; exact k3
    simp only [Sem.run_bind, run_build w t _ vs' hb, Result.andThen, Sem.run_pure]

theorem thnK {s : Step} {K : St → Prop} (h : thn s K) : ∃ p σ', s = some (p, σ') ∧ p ∧ K σ' := by
  unfold thn at h
  split at h
  · exact ⟨_, _, rfl, h.1, h.2⟩
  · exact h.elim

theorem pickT_eq (c : Bool) (x y : T) : pickT c x y = if c = true then x else y := by
  unfold pickT
  split <;> cases c <;> simp
theorem pickV_eq (c : Bool) (x y : V) : pickV c x y = if c = true then x else y := by
  unfold pickV
  split
  · rw [pickT_eq]; cases c <;> simp
  · cases c <;> simp
theorem sem_pick {o : Oper} {σ : St} {x y z : Operand} {c : Bool} (ho : o.op = .pick z x y) (hz : σ.get P 0 z = .one (.t (.bool c))) : StepSem P o σ (σ.put o.dst (pickV c (σ.get P o.type x) (σ.get P o.type y))) :=
  StepSem.value fun n0 N g a w hR => by
    have hv := hR.get P 0 z
    rw [hz] at hv
    simp only [VR, CR, RepV] at hv
    refine ⟨if c = true then a.eval x else a.eval y, by unfold execOp; simp only [ho, hv, asBool, Sem.run_bind, Sem.run_pure, Result.andThen], ?_⟩
    rw [pickV_eq]
    cases c
    · exact hR.get P o.type y
    · exact hR.get P o.type x
theorem st0_sound {o : Oper} {σ σ' : St} {p : Prop} (h : st0 P o σ = some (p, σ')) (hp : p) : StepSem P o σ σ' := by
  unfold st0 at h
  split at h
  all_goals rename_i ho
  · obtain ⟨v, hv, rfl⟩ := out_eq h
    cases hv
    exact StepSem.value fun n0 N g a w hR => ⟨_, by unfold execOp; simp only [ho, Sem.run_pure], hR.get P _ _⟩
  · obtain ⟨v, hv, rfl⟩ := out_eq h
    cases hv
    exact StepSem.value fun n0 N g a w hR => ⟨_, by unfold execOp; simp only [ho, Sem.run_pure], hR.get P _ _⟩
  · split at h
    · rename_i hc
      obtain ⟨v, hv, rfl⟩ := out_eq h
      cases hv
      exact sem_pick ho hc
    · cases h
  · obtain ⟨v, hv, rfl⟩ := out_eq h
    obtain ⟨y, h1, h2⟩ := Option.bind_eq_some_iff.1 hv
    exact sem_load ho h1 h2
  · obtain ⟨v, hv, rfl⟩ := outP_eq h
    exact sem_bin ho hv hp
  · obtain ⟨v, hv, rfl⟩ := out_eq h
    obtain ⟨c, h1, rfl⟩ := Option.map_eq_some_iff.1 hv
    exact sem_un ho h1
  · split at h
    · obtain ⟨v, hv, rfl⟩ := out_eq h
      exact sem_extract ho ‹_› hv
    · cases h
  · obtain ⟨y, h1, h2⟩ := Option.bind_eq_some_iff.1 h
    obtain ⟨q, ft⟩ := y
    obtain ⟨n, hn, h3⟩ := Option.bind_eq_some_iff.1 h2
    by_cases h0 : n = 0
    · rw [if_pos h0] at h3; cases h3
    · rw [if_neg h0] at h3
      exact sem_fieldAddr ho h1 hn h0 h3
  · obtain ⟨y, h1, h2⟩ := Option.bind_eq_some_iff.1 h
    obtain ⟨q, ft⟩ := y
    simp only at h2
    split at h2
    · obtain ⟨v, hv, rfl⟩ := out_eq h2
      exact sem_field ho h1 ‹_› hv
    · cases h2
  · obtain ⟨n, h1, h2⟩ := Option.bind_eq_some_iff.1 h
    exact sem_indexAddr ho h1 h2 hp
  · exact sem_index ho h hp
  · split at h
    all_goals first
      | (rename_i hx; obtain ⟨v, hv, rfl⟩ := out_eq h; cases hv; rw [← hx]; refine sem_nilCheck ho ?_; rw [hx]; simp)
      | cases h
  · split at h
    · rename_i h1 h2 h3
      obtain ⟨v, hv, rfl⟩ := out_eq h
      cases hv
      exact sem_convert ho h1 h2 h3
    · cases h
  · split at h
    · rename_i x t h1 h2
      split at h
      · rename_i sz rows hx
        split at h
        · rename_i he
          obtain ⟨v, hv, rfl⟩ := out_eq h
          cases hv
          obtain ⟨e, he⟩ := Option.isSome_iff_exists.1 he
          have hu : P.underlying t = some (.slice e) := by unfold elT at he; split at he <;> simp_all
          by_cases hn : rows.length ≤ maxI
          · refine sem_len ho h1 h2 hn fun n0 N g a w hR => ?_
            have hv := hR.get P t x
            rw [hx] at hv
            simp only [VR, CR, RepV] at hv
            obtain ⟨ao, cap, k1, k2⟩ := hv
            simp [Builtin.len_, run_underlying hu, k1, goInt]
          · refine StepSem.value fun n0 N g a w hR => ?_
            have hv := hR.get P t x
            rw [hx] at hv
            simp only [VR, CR, RepV] at hv
            obtain ⟨ao, cap, k1, k2, k3, k4⟩ := hv
            omega
        · cases h
      · rename_i s hx
        split at h
        · rename_i he
          obtain ⟨v, hv, rfl⟩ := out_eq h
          cases hv
          by_cases hn : s.length ≤ maxI
          · refine sem_len ho h1 h2 hn fun n0 N g a w hR => ?_
            have hv := hR.get P t x
            rw [hx] at hv
            simp only [VR, CR, RepV] at hv
            have hz : (⟨s.toArray⟩ : ByteArray).size = s.length := by simp [ByteArray.size]
            simp [Builtin.len_, run_underlying (strT_eq he), hv.1, goInt, hz]
          · refine StepSem.value fun n0 N g a w hR => ?_
            have hv := hR.get P t x
            rw [hx] at hv
            simp only [VR, CR, RepV] at hv
            exact absurd hv.2 hn
        · cases h
      · rename_i s hx
        split at h
        · rename_i he
          obtain ⟨v, hv, rfl⟩ := out_eq h
          cases hv
          obtain ⟨e, he⟩ := Option.isSome_iff_exists.1 he
          have hu : P.underlying t = some (.slice e) := by unfold elT at he; split at he <;> simp_all
          refine sem_len (n := 0) ho h1 h2 (by omega) fun n0 N g a w hR => ?_
          have hv := hR.get P t x
          rw [hx] at hv
          simp [Builtin.len_, run_underlying hu, show a.eval x = .slice none 0 0 from hv, goInt]
        · cases h
      · rename_i e s hx
        split at h
        · rename_i he
          obtain ⟨y, hy, h⟩ := Option.bind_eq_some_iff.1 h
          split at h
          · rename_i hgen
            obtain ⟨v, hv, rfl⟩ := out_eq h
            cases hv
            obtain ⟨el, he⟩ := Option.isSome_iff_exists.1 he
            have hu : P.underlying t = some (.slice el) := by unfold elT at he; split at he <;> simp_all
            by_cases hn : y.rows.length ≤ maxI
            · refine sem_len ho h1 h2 hn fun n0 N g a w hR => ?_
              have hv := hR.get P t x
              rw [hx] at hv
              obtain ⟨ao, cap, e1, _⟩ := hR.sliceAny hy
              rw [hgen] at e1
              simp [Builtin.len_, run_underlying hu, hv.1.trans e1, goInt]
            · refine StepSem.value fun n0 N g a w hR => ?_
              obtain ⟨ao, cap, e1, e2, e3⟩ := hR.sliceAny hy
              omega
          · cases h
        · cases h
      · cases h
    · cases h
  · split at h
    · rename_i d hd
      split at h
      · rename_i hb
        obtain ⟨z, hz, h⟩ := Option.bind_eq_some_iff.1 h
        simp only [Option.some.injEq, Prod.mk.injEq] at h
        obtain ⟨_, rfl⟩ := h
        exact sem_alloc ho hd (by simpa using hb) hz
      · cases h
    · cases h
  · split at h
    · rename_i d hd
      split at h
      · rename_i hb
        simp only [Option.some.injEq, Prod.mk.injEq] at h
        obtain ⟨_, rfl⟩ := h
        exact sem_box ho hd (by simpa using hb.1) (not_tup hb.2.1) hb.2.2
      · cases h
    · cases h
  · split at h
    · rename_i b q n hx hn
      obtain ⟨cs, hc, h⟩ := Option.bind_eq_some_iff.1 h
      split at h
      · rename_i hh
        simp only [Option.some.injEq, Prod.mk.injEq] at h
        obtain ⟨_, rfl⟩ := h
        exact sem_store ho hx hn hc hh.1 hh.2.1 hh.2.2.1 (not_tup hh.2.2.2)
      · cases h
    · cases h
  · obtain ⟨pls, h1, h⟩ := Option.bind_eq_some_iff.1 h
    obtain ⟨v, hv, rfl⟩ := out_eq h
    obtain ⟨z, h2, hv⟩ := Option.bind_eq_some_iff.1 hv
    obtain ⟨cs, h3, rfl⟩ := Option.map_eq_some_iff.1 hv
    exact sem_build ho h1 h2 h3
  · split at h
    · obtain ⟨bs, h1, h⟩ := Option.bind_eq_some_iff.1 h
      obtain ⟨v, hv, rfl⟩ := out_eq h
      cases hv
      exact sem_makeFunc ho ‹_› h1
    · cases h
  · cases h
theorem bndV_run {n0 : Nat → Prop} {N : Nat} {σ : St} {g : Gh} {a : Act} {w : World} (hR : Rel n0 N σ g a w) {d k : Int} {x : Operand} (h : bndV (σ.get P) d (some x) = some k) : ∃ kk, a.eval x = .int kk k := by
  unfold bndV at h
  simp only at h
  split at h
  · rename_i kk k' hx
    cases h
    have hv := hR.get P 0 x
    rw [hx] at hv
    simp only [VR, CR, RepV] at hv
    exact ⟨kk, hv.1⟩
  · cases h
/-- The bounds of a slice. -/
theorem bounds_run {n0 : Nat → Prop} {N : Nat} {σ : St} {g : Gh} {a : Act} {w : World} (hR : Rel n0 N σ g a w) {low high : Option Operand} {l u : Int} {len cap : Nat} (is : Bool) (hl : bndV (σ.get P) 0 low = some l) (hh : bndV (σ.get P) len high = some u)
    (h1 : 0 ≤ l) (h2 : l ≤ u) (h3 : u ≤ len) (h4 : len ≤ cap) : (Instr.sliceBounds is len cap (low.map a.eval) (high.map a.eval) none).run P w = .ok (l.toNat, u.toNat, cap) w := by
  cases low with
  | none =>
    cases hl
    cases high with
    | none => cases hh; simp [Instr.sliceBounds, Result.andThen]
    | some y =>
      obtain ⟨ky, hy⟩ := bndV_run hR hh
      simp [Instr.sliceBounds, Instr.sliceBound, asIntOf, Result.andThen, hy, h2, show u ≤ (cap : Int) by omega]
  | some x =>
    obtain ⟨kx, hx⟩ := bndV_run hR hl
    cases high with
    | none => cases hh; simp [Instr.sliceBounds, Instr.sliceBound, asIntOf, Result.andThen, hx, h1, h2]
    | some y =>
      obtain ⟨ky, hy⟩ := bndV_run hR hh
      simp [Instr.sliceBounds, Instr.sliceBound, asIntOf, Result.andThen, hx, hy, h1, h2, show 0 ≤ u by omega, show u ≤ (cap : Int) by omega, show l ≤ max u 0 by omega]
theorem RepRows.take {w : World} {A : Nat → Prop} {b sz o : Nat} {rows : List (List T)} (h : RepRows w A b o sz rows) (n : Nat) : RepRows w A b o sz (rows.take n) :=
  RepRows.mk fun i r hi => h.at i r (by
    rw [List.getElem?_take] at hi
    split at hi
    · exact hi
    · cases hi)
theorem RepRows.drop {w : World} {A : Nat → Prop} {b sz o : Nat} {rows : List (List T)} (h : RepRows w A b o sz rows) (n : Nat) : RepRows w A b (o + n * sz) sz (rows.drop n) :=
  RepRows.mk fun i r hi => by
    have := h.at (n + i) r (by rw [List.getElem?_drop] at hi; exact hi)
    rwa [show o + (n + i) * sz = o + n * sz + i * sz by rw [Nat.add_mul]; omega] at this
theorem vop_sound {o : Oper} {σ : St} {p : Prop} {v : V} (h : vop P (σ.get P) o.op = some (p, v)) (hp : p) : StepSem P o σ (σ.put o.dst v) := by
  unfold vop at h
  split at h
  · rename_i as ts ho
    split at h
    · rename_i x y hl
      have e1 : as = #[x, y] := by rw [← Array.toArray_toList (xs := as), hl]
      subst e1
      unfold ints2 at h
      split at h
      · rename_i k m k' n hx hy
        split at h
        · rename_i hkk
          subst hkk
          simp only [Option.some.injEq, Prod.mk.injEq] at h
          obtain ⟨rfl, rfl⟩ := h
          refine StepSem.value fun n0 N g a w hR => ?_
          have hv := hR.get P 0 x
          have hw := hR.get P 0 y
          rw [hx] at hv
          rw [hy] at hw
          simp only [VR, CR, RepV] at hv hw
          refine ⟨.int k (max m n), ?_, ?_⟩
          · unfold execOp
            simp only [ho]
            have e : (if n > m then n else m) = max m n := by split <;> omega
            simp [resolve, invoke, builtin, Builtin.max_, Builtin.max2, hv.1, hw.1, e]
          · simp only [VR, CR, RepV]; exact ⟨trivial, by omega, by omega⟩
        · cases h
      · cases h
    · cases h
  · rename_i as ts ho
    split at h
    · rename_i x y hl
      have e1 : as = #[x, y] := by rw [← Array.toArray_toList (xs := as), hl]
      subst e1
      unfold ints2 at h
      split at h
      · rename_i k m k' n hx hy
        split at h
        · rename_i hkk
          subst hkk
          simp only [Option.some.injEq, Prod.mk.injEq] at h
          obtain ⟨rfl, rfl⟩ := h
          refine StepSem.value fun n0 N g a w hR => ?_
          have hv := hR.get P 0 x
          have hw := hR.get P 0 y
          rw [hx] at hv
          rw [hy] at hw
          simp only [VR, CR, RepV] at hv hw
          refine ⟨.int k (min m n), ?_, ?_⟩
          · unfold execOp
            simp only [ho]
            have e : (if n < m then n else m) = min m n := by split <;> omega
            simp [resolve, invoke, builtin, Builtin.min_, Builtin.min2, hv.1, hw.1, e]
          · simp only [VR, CR, RepV]; exact ⟨trivial, by omega, by omega⟩
        · cases h
      · cases h
    · cases h
  · rename_i t x low high ho
    unfold sliceV at h
    split at h
    · rename_i s hx
      split at h
      · rename_i ht
        obtain ⟨l, hl, h⟩ := Option.bind_eq_some_iff.1 h
        obtain ⟨u, hu, h⟩ := Option.bind_eq_some_iff.1 h
        simp only [Option.some.injEq, Prod.mk.injEq] at h
        obtain ⟨rfl, rfl⟩ := h
        obtain ⟨p1, p2, p3⟩ := hp
        refine StepSem.value fun n0 N g a w hR => ?_
        have hv := hR.get P t x
        rw [hx] at hv
        simp only [VR, CR, RepV] at hv
        have hz : (⟨s.toArray⟩ : ByteArray).size = s.length := by simp [ByteArray.size]
        refine ⟨.string ⟨((s.take u.toNat).drop l.toNat).toArray⟩, ?_, ?_⟩
        · have hb := bounds_run (low := low) (high := high) (len := s.length) (cap := s.length) hR false hl hu p1 p2 p3 (Nat.le_refl _)
          have hex : (⟨s.toArray⟩ : ByteArray).extract l.toNat u.toNat = ⟨((s.take u.toNat).drop l.toNat).toArray⟩ := by
            apply ByteArray.ext
            rw [ByteArray.data_extract]
            apply Array.ext'
            simp [List.drop_take]
          unfold execOp
          simp only [ho]
          simp only [Instr.sliceAt, Instr.slice, Sem.run_bind, run_underlying (strT_eq ht), Result.andThen, hv.1, hz, hb, hex, Option.map_none, Option.isSome_none, Bool.false_eq_true, if_false, Sem.run_pure]
        · simp only [VR, CR, RepV]
          exact ⟨trivial, by simp; omega⟩
      · cases h
    · rename_i sz rows hx
      obtain ⟨n, hn, h⟩ := Option.bind_eq_some_iff.1 h
      obtain ⟨el, he, hs⟩ := Option.bind_eq_some_iff.1 hn
      obtain ⟨l, hl, h⟩ := Option.bind_eq_some_iff.1 h
      obtain ⟨u, hu, h⟩ := Option.bind_eq_some_iff.1 h
      simp only [Option.some.injEq, Prod.mk.injEq] at h
      obtain ⟨rfl, rfl⟩ := h
      obtain ⟨rfl, p1, p2, p3⟩ := hp
      have hun : P.underlying t = some (.slice el) := by unfold elT at he; split at he <;> simp_all
      refine StepSem.value fun n0 N g a w hR => ?_
      have hv := hR.get P t x
      rw [hx] at hv
      simp only [VR, CR, RepV] at hv
      obtain ⟨ao, cap, k1, k2, k3, k4⟩ := hv
      have hb := bounds_run (low := low) (high := high) (len := rows.length) (cap := cap) hR true hl hu p1 p2 p3 k2
      have hlen : ((rows.take u.toNat).drop l.toNat).length = u.toNat - l.toNat := by simp; omega
      refine ⟨.slice (if cap = l.toNat then ao else ao.map (·.add (l.toNat * sz))) (u.toNat - l.toNat) (cap - l.toNat), ?_, ?_⟩
      · unfold execOp
        simp only [ho]
        simp only [Instr.sliceAt, Instr.slice, Sem.run_bind, run_underlying hun, Result.andThen, k1, hb, run_sizeOf hs, Sem.run_pure, Option.map_none]
      · simp only [VR, CR, RepV]
        refine ⟨_, _, by rw [hlen], by rw [hlen]; omega, by omega, ?_⟩
        by_cases hc : cap = l.toNat
        · left
          exact List.length_eq_zero_iff.1 (by rw [hlen]; omega)
        · rw [if_neg hc]
          rcases k4 with rfl | ⟨b, o', rfl, k5, k6⟩
          · left; simp
          · right
            refine ⟨b, o' + l.toNat * sz, ?_, k5, (k6.take _).drop _⟩
            simp only [Option.map_some, Addr.add]
            split
            · rename_i h0; rw [h0]; rfl
            · rfl
    · rename_i s hx
      obtain ⟨n, hn, h⟩ := Option.bind_eq_some_iff.1 h
      obtain ⟨el, he, hs⟩ := Option.bind_eq_some_iff.1 hn
      obtain ⟨l, hl, h⟩ := Option.bind_eq_some_iff.1 h
      obtain ⟨u, hu, h⟩ := Option.bind_eq_some_iff.1 h
      simp only [Option.some.injEq, Prod.mk.injEq] at h
      obtain ⟨rfl, rfl⟩ := h
      obtain ⟨p1, p2, p3⟩ := hp
      have hun : P.underlying t = some (.slice el) := by unfold elT at he; split at he <;> simp_all
      refine StepSem.value fun n0 N g a w hR => ?_
      have hv := hR.get P t x
      rw [hx] at hv
      have hv : a.eval x = .slice none 0 0 := hv
      have hb := bounds_run (low := low) (high := high) (len := 0) (cap := 0) hR true hl hu p1 p2 p3 (Nat.le_refl _)
      refine ⟨.slice none 0 0, ?_, rfl⟩
      unfold execOp
      simp only [ho]
      have h1 : l.toNat = 0 := by omega
      have h2 : u.toNat = 0 := by omega
      simp only [Instr.sliceAt, Instr.slice, Sem.run_bind, run_underlying hun, Result.andThen, hv, hb, run_sizeOf hs, Sem.run_pure, Option.map_none, h1, h2, if_true]
    · cases h
  · cases h
theorem st_sound {o : Oper} {σ σ' : St} {p : Prop} (h : st P o σ = some (p, σ')) (hp : p) : StepSem P o σ σ' := by
  unfold st at h
  split at h
  · unfold St.outV at h
    obtain ⟨x, hx, h⟩ := Option.map_eq_some_iff.1 h
    simp only [Prod.mk.injEq] at h
    obtain ⟨rfl, rfl⟩ := h
    exact vop_sound hx hp
  · exact st0_sound h hp
end Go.Proofs.Ytgfjbbbkploonaa
