/-
  Appending ints to a row of the call's own.
  Conditions: none.
-/
import Derived.Test.YtggialagjkhdfaaW11
import Derived.Deep.RegionLaw
namespace Go.Proofs.Ytggialagjkhdfaa
open Go.RowKit

theorem run_append_ints {w : World} {ty : TypeId} {base : Nat} {v u : Value} {xs ys : List Int} (hown : OwnsInts w base v xs) (hsrc : Ints w u ys) (hl : xs.length + ys.length ≤ 1099511627776) (hb : base ≤ w.heap.size) :
    ∃ v' w', (Builtin.append_ #[24, 24] ty #[v, u]).run Try.prog w = .ok v' w' ∧ OwnsInts w' base v' (xs ++ ys) ∧ Below base w w' ∧ w.grownBy w' v.ownBlock := by
  obtain ⟨i0, hi, hz0, hz1, hz2⟩ := info_parts info_int
  have hbd := hsrc.bd
  obtain ⟨ao, cap, rfl, h1, h2, h3⟩ := hsrc.form
  have hall : ∀ x ∈ xs ++ ys, I64 x := fun x hx => by
    rcases List.mem_append.1 hx with hx | hx
    · exact hown.2 x hx
    · exact hbd x hx
  cases ao with
  | none =>
    have hy : ys = [] := by
      cases ys with
      | nil => rfl
      | cons y ys => obtain ⟨_, b, o, h, _⟩ := h3 0 (by simp); cases h
    subst hy
    refine ⟨v, w, ?_, by simpa using hown, Below.refl _ _, World.grownBy.refl _ _⟩
    rcases hown.1.2 with ⟨rfl, h0⟩ | ⟨g, cap, cur, rfl, _, _, hnc, _⟩
    · simp [Builtin.append_, run_underlying Try.underlying24, sizeOf, typeInfo, hi, Builtin.lenOf, Builtin.firstCells]
    · simp [Builtin.append_, run_underlying Try.underlying24, sizeOf, typeInfo, hi, Builtin.lenOf, Builtin.firstCells, hnc, storeCells]
  | some ad =>
    have hcells : ∀ j u, (ys.map (Value.int .i64))[j]? = some u → w.cell? (ad.add j) = some u := fun j u hu => by
      rw [List.getElem?_map] at hu
      obtain ⟨y, hy, rfl⟩ := Option.map_eq_some_iff.1 hu
      have hj := (List.getElem?_eq_some_iff.1 hy).1
      obtain ⟨_, b, o, hao, hc⟩ := h3 j hj
      cases hao
      rw [List.getElem?_eq_getElem hj] at hy
      cases hy
      have e : (⟨b, o, none⟩ : Addr).add j = ⟨b, o + j, none⟩ := by
        unfold Addr.add
        by_cases hj0 : j = 0
        · rw [if_pos hj0, hj0, Nat.add_zero]
        · rw [if_neg hj0]
      rw [e]
      exact hc
    obtain ⟨v', w', r1, r2, r3, _⟩ := run_append_own (P := Try.prog) w base 24 ty 3 i0 (.int .i64 0) 1 8 Try.underlying24 hi hz0 hz1 hz2 rfl (by decide) v xs.length _ hown.1 ad ys.length cap (ys.map (Value.int .i64)) (by simp) hcells
      (fun u hu => by obtain ⟨y, _, rfl⟩ := List.mem_map.1 hu; rfl) (by unfold maxLen; omega) (by omega) hb
    refine ⟨v', w', r1, ⟨by simpa using r2, hall⟩, (Below.refl base w).grown r3 hb fun k hk => (hown.1.lt k hk).1, r3⟩

theorem append_ints {ops : Array Oper} {rest : List Oper} {o : Oper} {a : Act} {Q : Exit → Act → World → Prop} {w : World} (hgd : o.guard = none) (s x : Operand)
    (ho : o.op = .call { callee := .builtin .append, args := #[s, x], argTypes := #[24, 24] }) {base : Nat} {v u : Value} {xs ys : List Int} (hown : OwnsInts w base v xs) (hs : a.eval s = v)
    (hsrc : Ints w u ys) (hx : a.eval x = u) (hl : xs.length + ys.length ≤ 1099511627776) (hb : base ≤ w.heap.size)
    (h : ∀ v' w', OwnsInts w' base v' (xs ++ ys) → Below base w w' → wpList Try.prog ops Q rest (a.put o.dst v') w') : wpList Try.prog ops Q (o :: rest) a w := by
  refine wpList_plain hgd fun K hK => ?_
  obtain ⟨v', w', hrun, r1, r2, r3⟩ := run_append_ints (ty := o.type) hown hsrc hl hb
  unfold Oper.wp
  simp [execOp, ho, resolve, invoke, builtin, hs, hx, hrun, Result.andThen]
  exact hK _ _ (h v' w' r1 r2)

theorem step_append_ints {ops : Array Oper} {o : Oper} {a : Act} {w : World} {K : Act → World → Prop} {Q : Exit → Act → World → Prop} {E : Prop} (hgd : o.guard = none) (s x : Operand)
    (ho : o.op = .call { callee := .builtin .append, args := #[s, x], argTypes := #[24, 24] }) {base : Nat} {v u : Value} {xs ys : List Int} (hown : OwnsInts w base v xs) (hs : a.eval s = v)
    (hsrc : Ints w u ys) (hx : a.eval x = u) (hl : xs.length + ys.length ≤ 1099511627776) (hb : base ≤ w.heap.size)
    (h : ∀ v' w', OwnsInts w' base v' (xs ++ ys) → Below base w w' → w.grownBy w' v.ownBlock → K (a.put o.dst v') w') : if Region.wanted o (yielded ops a.tmps) = true then Oper.wp Try.prog o a w K Q else E := by
  have hw : Region.wanted o (yielded ops a.tmps) = true := by simp [Region.wanted, hgd]
  rw [if_pos hw]
  obtain ⟨v', w', hrun, r1, r2, r3⟩ := run_append_ints (ty := o.type) hown hsrc hl hb
  unfold Oper.wp
  simp [execOp, ho, resolve, invoke, builtin, hs, hx, hrun, Result.andThen]
  exact h v' w' r1 r2 r3

theorem Ints.take {w : World} {ao : Option Addr} {n cap : Nat} {xs : List Int} (h : Ints w (.slice ao n cap) xs) (k : Nat) (hk : k ≤ xs.length) : Ints w (.slice ao k cap) (xs.take k) := by
  obtain ⟨ao', cap', h1, h2, h3, h4⟩ := h
  simp only [List.cons.injEq, Value.slice.injEq, and_true] at h1
  obtain ⟨rfl, rfl, rfl⟩ := h1
  rw [List.length_map] at h2
  refine ⟨ao, cap, by simp [Nat.min_eq_left hk], by simp; omega, h3, ?_⟩
  rcases h4 with h4 | ⟨b, o, h4, h5⟩
  · left; simp at h4; subst h4; simp
  · right
    refine ⟨b, o, h4, RepRow.mk fun i hi => ?_⟩
    simp only [List.length_map, List.length_take] at hi
    have := h5.at i (by simp; omega)
    simpa using this
theorem Ints.drop {w : World} {ao : Option Addr} {n cap : Nat} {xs : List Int} (h : Ints w (.slice ao n cap) xs) (k : Nat) (hk : k ≤ xs.length) : Ints w (.slice (Option.map (fun x => x.add k) ao) (n - k) (cap - k)) (xs.drop k) := by
  obtain ⟨ao', cap', h1, h2, h3, h4⟩ := h
  simp only [List.cons.injEq, Value.slice.injEq, and_true] at h1
  obtain ⟨rfl, rfl, rfl⟩ := h1
  rw [List.length_map] at h2
  rw [List.length_map]
  refine ⟨Option.map (fun x => x.add k) ao, cap - k, by simp, by simp; omega, by omega, ?_⟩
  rcases h4 with h4 | ⟨b, o, h4, h5⟩
  · left; simp at h4; subst h4; simp
  · right
    refine ⟨b, o + k, ?_, RepRow.mk fun i hi => ?_⟩
    · subst h4
      simp only [Option.map_some, Addr.add]
      split <;> simp_all
    · simp only [List.length_map, List.length_drop] at hi
      have := h5.at (k + i) (by simp; omega)
      simpa [Nat.add_assoc] using this
theorem Ints.drop_at {w : World} {b o n cap : Nat} {xs : List Int} (h : Ints w (.slice (some ⟨b, o, none⟩) n cap) xs) (k : Nat) (hk : k ≤ xs.length) : Ints w (.slice (some ⟨b, o + k, none⟩) (n - k) (cap - k)) (xs.drop k) := by
  have := h.drop k hk
  have e : (⟨b, o, none⟩ : Addr).add k = ⟨b, o + k, none⟩ := by
    unfold Addr.add
    by_cases hj0 : k = 0
    · rw [if_pos hj0, hj0, Nat.add_zero]
    · rw [if_neg hj0]
  rwa [Option.map_some, e] at this
theorem Ints.nil {w : World} (ao : Option Addr) : Ints w (.slice ao 0 0) [] := ⟨ao, 0, rfl, Nat.le_refl _, by omega, Or.inl rfl⟩
theorem Ints.empty {w : World} (ao : Option Addr) (c : Nat) (hc : c ≤ 9223372036854775807) : Ints w (.slice ao 0 c) [] := ⟨ao, c, rfl, Nat.zero_le _, hc, Or.inl rfl⟩
/-- A block of one int. -/
theorem Ints.one {w : World} {b : Nat} {x : Int} (h : w.cell? ⟨b, 0, none⟩ = some (.int .i64 x)) (hx : I64 x) : Ints w (.slice (some ⟨b, 0, none⟩) 1 1) [x] := by
  refine ⟨_, 1, rfl, by simp, by omega, Or.inr ⟨b, 0, rfl, ?_⟩⟩
  refine RepRow.mk fun i hi => ?_
  have : i = 0 := by simp at hi; omega
  subst this
  refine ⟨[.int .i64 x], rfl, fun j v hv => ?_, rfl, hx⟩
  have hj : j = 0 := by have := (List.getElem?_eq_some_iff.1 hv).1; simp at this; omega
  subst hj
  simpa [h] using hv
theorem OwnsInts.ints {w : World} {base : Nat} {v : Value} {xs : List Int} (h : OwnsInts w base v xs) : Ints w v xs := h.fresh.rep
theorem OwnsInts.alloc {w : World} {base : Nat} {v : Value} {xs : List Int} (h : OwnsInts w base v xs) (o : Obj) : OwnsInts (w.alloc o) base v xs := ⟨h.1.alloc o, h.2⟩
theorem OwnsInts.empty' {w : World} {base B : Nat} (hB : B = w.heap.size) (hb : base ≤ w.heap.size) : OwnsInts (w.alloc (.cells #[] 3)) base (.slice (some ⟨B, 0, Option.none⟩) 0 0) [] := by
  subst hB; exact OwnsInts.empty hb
theorem OwnsInts.drew {w : World} {base : Nat} {v : Value} {xs : List Int} (h : OwnsInts w base v xs) : OwnsInts w.drew base v xs := h

end Go.Proofs.Ytggialagjkhdfaa
