/-
  Sorting a row of the call's own; appending to one and knowing its block; two clauses put side by side.
  Conditions: those that each theorem names.
-/
import Derived.Test.YtggialagjkhdfaaW23
import Derived.Test.YtggialagjkhdfaaApp
import Derived.Test.YtggialagjkhdfaaP18
namespace Go.Proofs.Ytggialagjkhdfaa
open Go.RowKit

theorem OwnsInts.block {w : World} {base : Nat} {v : Value} {xs : List Int} (h : OwnsInts w base v xs) (hn : v.ownBlock ≠ none) :
    ∃ g cap cur, v = .slice (some ⟨g, 0, none⟩) xs.length cap ∧ base ≤ g ∧ w.heap[g]? = some (.cells cur 3 (0, 0)) ∧ xs.length ≤ cap ∧ cap ≤ maxLen ∧ cur.size = cap ∧ ∀ j (hj : j < xs.length), cur[j]? = some (.int .i64 xs[j]) := by
  rcases h.1.2 with ⟨rfl, h0⟩ | ⟨g, cap, cur, rfl, hg, hb, hc, hm, hs, ht⟩
  · exact absurd rfl hn
  · refine ⟨g, cap, cur, rfl, hg, hb, hc, hm, by simpa using hs, fun j hj => ?_⟩
    have := congrArg (fun l => l[j]?) ht
    simp only [List.getElem?_take, Nat.mul_one, if_pos hj, List.getElem?_map, List.getElem?_eq_getElem hj, Option.map_some, Array.getElem?_toList] at this
    exact this

theorem sortOwned_any (v : Value) (xs : List Int) (base : Nat) (w : World) (h : OwnsInts w base v xs) (hn : v.ownBlock ≠ none) (hl : xs.length ≤ 12) :
    Calls Try.prog 66 #[v, .func (.func 67) #[] #[]] w fun e' w' => e' = .returned (.tuple #[]) ∧ Fresh base w' (ints (sorted [] xs)) [v] ∧ Below base w w' := by
  obtain ⟨g, cap, cur, rfl, hg, hb, hc, hm, hs, ht⟩ := h.block hn
  have hrow : IntRow w g 0 3 xs := ⟨cur, hb, fun j hj => by rw [Nat.zero_add]; exact ht j hj⟩
  refine (sortFunc_any g 0 cap _ xs w hrow h.2 hc hl).mono ?_
  rintro e' w' ⟨rfl, ⟨cells, h1, h2⟩, hw⟩
  have hlen : (sorted [] xs).length = xs.length := by rw [sorted_len]; simp
  refine ⟨rfl, ⟨[g], Own.ints_mk hlen hc (by unfold maxLen at hm; omega) h1 (fun j hj => h2 j (by omega)) ?_, by simp, by simpa using hg⟩, hw.below (by simpa using hg)⟩
  intro x hx
  rcases (sorted_mem x xs []).1 hx with hx | hx
  · simp at hx
  · exact h.2 x hx

theorem append_int_own {ops : Array Oper} {rest : List Oper} {o : Oper} {a : Act} {Q : Exit → Act → World → Prop} {w0 : World} (z : Int) (hgd : o.guard = none) {s x : Operand}
    (ho : o.op = .call { callee := .builtin .append, args := #[s, x], argTypes := #[24, 24] }) {base : Nat} {v : Value} {xs : List Int} (hown : OwnsInts w0 base v xs) (hs : a.eval s = v)
    (hx : a.eval x = .slice (some ⟨w0.heap.size, 0, Option.none⟩) 1 1) (hz : I64 z) (hl : xs.length ≤ 1048576) (hb : base ≤ w0.heap.size) {bo : Nat} (hbo : v.ownBlock = some bo)
    (h : ∀ v' w', OwnsInts w' base v' (xs ++ [z]) → Below base w0 w' → w0.grownBy w' (some bo) → (∃ b', v'.ownBlock = some b' ∧ (b' = bo ∨ w0.heap.size ≤ b')) → wpList Try.prog ops Q rest (a.put o.dst v') w') : wpList Try.prog ops Q (o :: rest) a (w0.alloc (.cells #[.int .i64 z] 3)) := by
  obtain ⟨i0, hi, hz0, hz1, hz2⟩ := info_parts info_int
  obtain ⟨g, cap, cur, rfl, hg, hbk, hc, hm, hcs, ht⟩ := hown.block (by rw [hbo]; simp)
  simp only [Value.ownBlock, Option.some.injEq] at hbo
  subst hbo
  have hcell : ∀ j u, ([Value.int .i64 z])[j]? = some u → (w0.alloc (.cells #[.int .i64 z] 3)).cell? ((⟨w0.heap.size, 0, none⟩ : Addr).add j) = some u := cell_one_new _ _ _
  have hall : ∀ y ∈ xs ++ [z], I64 y := fun y hy => by
    rcases List.mem_append.1 hy with hy | hy
    · exact hown.2 y hy
    · simp at hy; subst hy; exact hz
  refine wpList_plain hgd fun K hK => ?_
  have hown1 := hown.1.alloc (.cells #[.int .i64 z] 3)
  obtain ⟨v', w', hrun, r2, r3, _⟩ := run_append_own (P := Try.prog) (w0.alloc (.cells #[.int .i64 z] 3)) base 24 o.type 3 i0 (.int .i64 0) 1 8 Try.underlying24 hi hz0 hz1 hz2 rfl (by decide) _ xs.length _ hown1 ⟨w0.heap.size, 0, none⟩ 1 1 [.int .i64 z] (by simp) hcell
    (fun u hu => by simp at hu; subst hu; rfl) (by unfold maxLen; omega) (by omega) (by simp; omega)
  have hblk : ∃ b', v'.ownBlock = some b' ∧ (b' = g ∨ w0.heap.size ≤ b') := by
    have hlt : g < w0.heap.size := (Array.getElem?_eq_some_iff.1 hbk).1
    have hbk1 : (w0.alloc (.cells #[.int .i64 z] 3)).heap[g]? = some (.cells cur 3 (0, 0)) := by rw [heap_alloc_old _ _ hlt]; exact hbk
    by_cases hroom : xs.length + 1 ≤ cap
    · have hr := run_append_room (P := Try.prog) (w0.alloc (.cells #[.int .i64 z] 3)) 24 o.type 3 i0 Try.underlying24 hi g xs.length cap cur hbk1 ⟨w0.heap.size, 0, none⟩ 1 1 [.int .i64 z] (by simp [hz1]) hcell (fun u hu => by simp at hu; subst hu; rfl) hroom (by simp [hz1]; omega)
      rw [hrun] at hr
      cases hr
      exact ⟨g, rfl, Or.inl rfl⟩
    · have hr := run_append_grow (P := Try.prog) (w0.alloc (.cells #[.int .i64 z] 3)) 24 o.type 3 i0 (.int .i64 0) Try.underlying24 hi hz0 ⟨g, 0, none⟩ xs.length cap _ (by simp [hz1]) (hown1.cells (g := g) rfl) ⟨w0.heap.size, 0, none⟩ 1 1 [.int .i64 z] (by simp [hz1]) hcell (by omega) (by omega) (growslice_fits (by omega) (by rw [hz2]; omega))
      rw [hrun] at hr
      cases hr
      exact ⟨_, rfl, Or.inr (by simp)⟩
  unfold Oper.wp
  simp [execOp, ho, Go.resolve, invoke, builtin, hs, hx, hrun, Result.andThen]
  refine hK _ _ (h v' w' ⟨by simpa using r2, hall⟩ (((Below.refl base w0).alloc hb _).grown r3 (by simp; omega) fun k hk => (hown.1.lt k hk).1) ?_ hblk)
  exact (World.grownBy_alloc w0 _ _).trans r3

theorem Rows2.two {w : World} {b : Nat} {va vb : Value} {xs ys : List Int} (h0 : w.cell? ⟨b, 0, none⟩ = some va) (h1 : w.cell? ⟨b, 1, none⟩ = some vb) (ha : Ints w va xs) (hb : Ints w vb ys) :
    Rows2 w (.slice (some ⟨b, 0, none⟩) 2 2) [xs, ys] := by
  refine ⟨_, 2, rfl, by simp, by omega, Or.inr ⟨b, 0, rfl, ?_⟩⟩
  refine RepRow.mk fun i hi => ?_
  have hi' : i = 0 ∨ i = 1 := by simp at hi; omega
  rcases hi' with rfl | rfl
  · refine ⟨[va], rfl, fun j v hv => ?_, ha⟩
    have hj : j = 0 := by have := (List.getElem?_eq_some_iff.1 hv).1; simp at this; omega
    subst hj
    simpa [h0] using hv
  · refine ⟨[vb], rfl, fun j v hv => ?_, hb⟩
    have hj : j = 0 := by have := (List.getElem?_eq_some_iff.1 hv).1; simp at this; omega
    subst hj
    simpa [h1] using hv
end Go.Proofs.Ytggialagjkhdfaa
