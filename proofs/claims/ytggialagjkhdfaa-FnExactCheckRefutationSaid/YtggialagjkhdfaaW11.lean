/-
  Contracts of functions of the program and of its laws: specColors.
  Conditions: those that each theorem names.
-/
import Derived.Test.YtggialagjkhdfaaW10
namespace Go.Proofs.Ytggialagjkhdfaa
open Go.RowKit

/-- What a row of ints that the call made reads as. -/
theorem Fresh.of_owns {w : World} {base : Nat} {e : TypeId} {v : Value} {xs : List Int} (h : w.ownsRow base e 1 v xs.length (xs.map (Value.int .i64))) (hx : ∀ x ∈ xs, I64 x) : Fresh base w (ints xs) [v] := by
  obtain ⟨h1, h2⟩ := h
  rcases h2 with ⟨rfl, h0⟩ | ⟨g, cap, cur, rfl, hg, hb, hc, hm, hs, ht⟩
  · have : xs = [] := by simpa using h0
    subst this
    exact ⟨[], ⟨none, 0, rfl, Nat.le_refl _, by omega, Or.inl ⟨rfl, rfl⟩⟩, List.nodup_nil, by simp⟩
  · unfold maxLen at hm
    refine Fresh.mono (Own.ints_made (w := w) (b := g) (n := cap) (e := e) (f := fun j => cur[j]?.getD undef) ⟨cur, hb, by omega, fun j hj => ?_⟩ xs hc hc (by omega) hx fun j hj => ?_) hg
    · simp [show j < cur.size by omega]
    · have := congrArg (fun l => l[j]?) ht
      simp only [Nat.mul_one, List.getElem?_take, if_pos hj, List.getElem?_map, List.getElem?_eq_getElem hj, Option.map_some] at this
      rw [Array.getElem?_toList] at this
      simp [this]

theorem Rows2.take {w : World} {ao : Option Addr} {n cap : Nat} {set : List (List Int)} (h : Rows2 w (.slice ao n cap) set) (k : Nat) (hk : k ≤ set.length) : Rows2 w (.slice ao k cap) (set.take k) := by
  obtain ⟨ao', cap', h1, h2, h3, h4⟩ := h
  simp only [List.cons.injEq, Value.slice.injEq, and_true] at h1
  obtain ⟨rfl, rfl, rfl⟩ := h1
  rw [List.length_map] at h2
  refine ⟨ao, cap, by simp [Nat.min_eq_left hk], by simp; omega, h3, ?_⟩
  rcases h4 with h4 | ⟨b, o, h4, h5⟩
  · left; simp at h4; subst h4; simp
  · right
    refine ⟨b, o, h4, RepRow.mk fun i hi => ?_⟩
    simp only [List.length_map, List.length_take] at hi
    have := h5.at i (by simp; omega)
    simpa using this

theorem Rows2.drop {w : World} {ao : Option Addr} {n cap : Nat} {set : List (List Int)} (h : Rows2 w (.slice ao n cap) set) (k : Nat) (hk : k ≤ set.length) : Rows2 w (.slice (Option.map (fun x => x.add k) ao) (n - k) (cap - k)) (set.drop k) := by
  obtain ⟨ao', cap', h1, h2, h3, h4⟩ := h
  simp only [List.cons.injEq, Value.slice.injEq, and_true] at h1
  obtain ⟨rfl, rfl, rfl⟩ := h1
  rw [List.length_map] at h2
  rw [List.length_map]
  refine ⟨Option.map (fun x => x.add k) ao, cap - k, by simp, by simp; omega, by omega, ?_⟩
  rcases h4 with h4 | ⟨b, o, h4, h5⟩
  · left; simp at h4; subst h4; simp
  · right
    refine ⟨b, o + k, ?_, RepRow.mk fun i hi => ?_⟩
    · subst h4
      simp only [Option.map_some, Addr.add]
      split <;> simp_all
    · simp only [List.length_map, List.length_drop] at hi
      have := h5.at (k + i) (by simp; omega)
      simpa [Nat.add_assoc] using this
theorem Rows2.drop_all {w : World} {set : List (List Int)} (k : Nat) (hk : set.length ≤ k) (a2 : Option Addr) : Rows2 w (.slice a2 0 0) (set.drop k) := by
  rw [List.drop_of_length_le hk]
  exact ⟨a2, 0, rfl, Nat.le_refl _, by omega, Or.inl rfl⟩

/-- The value v is a row of ints that the call made (or nil), blocks from base on. -/
def OwnsInts (w : World) (base : Nat) (v : Value) (xs : List Int) : Prop := w.ownsRow base 3 1 v xs.length (xs.map (Value.int .i64)) ∧ ∀ x ∈ xs, I64 x

theorem OwnsInts.fresh {w : World} {base : Nat} {v : Value} {xs : List Int} (h : OwnsInts w base v xs) : Fresh base w (ints xs) [v] := Fresh.of_owns h.1 h.2
theorem OwnsInts.nil (w : World) (base : Nat) : OwnsInts w base (.slice none 0 0) [] := ⟨World.ownsRow_nil _ _ _ _, by simp⟩
theorem OwnsInts.empty {w : World} {base : Nat} (hb : base ≤ w.heap.size) : OwnsInts (w.alloc (.cells #[] 3)) base (.slice (some ⟨w.heap.size, 0, none⟩) 0 0) [] :=
  ⟨World.ownsRow_made (size := 1) w #[] 0 hb (by omega) rfl, by simp⟩
theorem OwnsInts.qt {w w' : World} {base : Nat} {v : Value} {xs : List Int} (h : OwnsInts w base v xs) (hq : Qt w w') : OwnsInts w' base v xs := by
  obtain ⟨n, rfl⟩ := hq; exact h
theorem OwnsInts.below {w w' : World} {base : Nat} {v : Value} {xs : List Int} (h : OwnsInts w base v xs) (hb : Below w.heap.size w w') : OwnsInts w' base v xs := by
  refine ⟨⟨h.1.1, ?_⟩, h.2⟩
  rcases h.1.2 with h | ⟨g, cap, cur, h1, h2, h3, h4⟩
  · exact Or.inl h
  · exact Or.inr ⟨g, cap, cur, h1, h2, (hb.block g (Array.getElem?_eq_some_iff.1 h3).1).trans h3, h4⟩

/-- append(out, z), out a row of the call's own. -/
theorem append_int {ops : Array Oper} {rest : List Oper} {o : Oper} {a : Act} {Q : Exit → Act → World → Prop} {w0 : World} (z : Int) (hgd : o.guard = none) {s x : Operand}
    (ho : o.op = .call { callee := .builtin .append, args := #[s, x], argTypes := #[24, 24] }) {base : Nat} {v : Value} {xs : List Int} (hown : OwnsInts w0 base v xs) (hs : a.eval s = v)
    (hx : a.eval x = .slice (some ⟨w0.heap.size, 0, Option.none⟩) 1 1) (hz : I64 z) (hl : xs.length ≤ 1099511627776) (hb : base ≤ w0.heap.size)
    (h : ∀ v' w', OwnsInts w' base v' (xs ++ [z]) → Below base w0 w' → wpList Try.prog ops Q rest (a.put o.dst v') w') : wpList Try.prog ops Q (o :: rest) a (w0.alloc (.cells #[.int .i64 z] 3)) := by
  obtain ⟨i0, hi, hz0, hz1, hz2⟩ := info_parts info_int
  refine wpList_append_own _ hgd _ _ 24 ho base 3 i0 (.int .i64 0) 1 8 Try.underlying24 hi hz0 hz1 hz2 rfl (by decide) v xs.length _ hs (hown.1.alloc _) ⟨w0.heap.size, 0, Option.none⟩ 1 1 [.int .i64 z] hx rfl
    (cell_one_new _ _ _) (fun u hu => by simp at hu; subst hu; rfl) (by unfold maxLen; omega) (by omega) (by simp; omega) fun v' w' h1 h2 _ => ?_
  refine h v' w' ⟨?_, fun y hy => ?_⟩ ?_
  · simpa using h1
  · rcases List.mem_append.1 hy with hy | hy
    · exact hown.2 y hy
    · simp at hy; subst hy; exact hz
  · exact ((Below.refl base w0).alloc hb _).grown h2 (by simp; omega) fun k hk => (hown.1.lt k hk).1

set_option maxRecDepth 100000 in
set_option maxHeartbeats 1600000 in
theorem specColors_any (v : Value) (set : List (List Int)) (split : Int) (w : World) (h1 : Rows2 w v set) :
    Calls Try.prog 13 #[v, .int .i64 split] w fun e w' => ∃ u xs ok, e = .returned (.tuple #[u, .bool ok]) ∧
      Fresh w.heap.size w' (ints xs) [u] ∧ Below w.heap.size w w' ∧ ok = (isSet set && inB split 0 set.length) ∧ xs = if ok then colorList set split.toNat else [] := by
  have HC := hid fun wx (hb : Below w.heap.size w wx) => l15Set_any v set wx (h1.keep (Keeps.of_below hb))
  have HM := hid fun wx (hb : Below w.heap.size w wx) => l15Most_any v set wx (h1.keep (Keeps.of_below hb))
  have H1 := hid fun wx (hb : Below w.heap.size w wx) => h1.keep (Keeps.of_below hb)
  obtain ⟨a1, c1, rfl, k1, m1, r1⟩ := h1.form
  clear h1 r1
  obtain ⟨i0, hi, hz0, hz1, hz2⟩ := info_parts info_int
  go_enter Try.func13, Try.ntmps13
  have b0 : Below w.heap.size w (w.alloc (.cells #[] 3)) := (Below.refl _ _).alloc (Nat.le_refl _) _
  have hfr0 : Hid (Fresh w.heap.size (w.alloc (.cells #[] 3)) (ints []) [.slice (some ⟨w.heap.size, 0, none⟩) 0 0]) :=
    hid ⟨[], ⟨_, 0, rfl, Nat.le_refl _, by omega, Or.inl ⟨rfl, rfl⟩⟩, List.nodup_nil, by simp⟩
  cases hs : isSet set with
  | false =>
    rw [hs] at HC
    go_wp2_with fail
    refine (HC.out _ b0).mono ?_
    rintro e w1 ⟨rfl, hq⟩
    go_wp2_with fail
    go_ret2
    exact ⟨_, [], false, rfl, hfr0.out.below (hq.below _), b0.trans (hq.below _), rfl, rfl⟩
  | true =>
    rw [hs] at HC
    cases hsp : inB split 0 set.length with
    | false =>
      go_wp2_with fail
      refine (HC.out _ b0).mono ?_
      rintro e w1 ⟨rfl, hq⟩
      go_wp2_with (go_at_call 49; go_must (refine (l1In_any _ _ _ _).mono ?_; rintro e w2 ⟨rfl, hw⟩; rw [hw, hsp]; clear hw))
      go_ret2
      exact ⟨_, [], false, rfl, hfr0.out.below (hq.below _), b0.trans (hq.below _), rfl, rfl⟩
    | true =>
      obtain ⟨sp, rfl⟩ : ∃ sp : Nat, split = sp := ⟨split.toNat, by have := inB_iff.1 hsp; omega⟩
      have hle : sp ≤ set.length := by have := inB_iff.1 hsp; omega
      go_wp2_with fail
      refine (HC.out _ b0).mono ?_
      rintro e w1 ⟨rfl, hq⟩
      go_wp2_with (go_at_call 49; go_must (refine (l1In_any _ _ _ _).mono ?_; rintro e w2 ⟨rfl, hw⟩; rw [hw, hsp]; clear hw))
      obtain ⟨q, rfl⟩ := hq
      obtain ⟨n, hn⟩ : ∃ n : Nat, Hid (mostS 0 set = n) := ⟨(mostS 0 set).toNat, by have := set_most hs; exact hid (by omega)⟩
      have hn12 : n ≤ 12 := by have := set_most hs; rw [hn.out] at this; omega
      rw [hn.out] at HM
      have hown0 : OwnsInts ((w.drewN q).alloc (.cells #[] 3)) w.heap.size (.slice (some ⟨w.heap.size, 0, none⟩) 0 0) [] := OwnsInts.empty (w := w.drewN q) (Nat.le_refl _)
      have HB0 := hid (((Qt.of (w := w) q).below w.heap.size).alloc (Nat.le_refl _) (.cells #[] 3))
      go_loopw [6, 7] (fun out vv wr => ∃ (j : Nat), j ≤ n ∧ vv = .int .i64 ((j : Int) + 1) ∧ OwnsInts wr w.heap.size out ((List.range j).map fun (t : Nat) => colorOf set sp ((t : Int) + 1)) ∧ Below w.heap.size w wr) (fun _ i _ => 14 - (intOf i).toNat)
      case atStart => exact ⟨0, Nat.zero_le _, rfl, hown0, HB0.out⟩
      case round =>
        obtain ⟨j, hj, rfl, hown, hbel⟩ := hrel
        go_wp2_with fail
        refine (HM.out _ hbel).mono ?_
        rintro e w3 ⟨rfl, q3, rfl⟩
        have HO : Hid (OwnsInts (wr.drewN q3) w.heap.size u6 ((List.range j).map fun (t : Nat) => colorOf set sp ((t : Int) + 1))) := hown
        have HB := hid (below_drewN hbel q3)
        clear hown hbel b0 hfr0 hown0 HB0 HC
        generalize wr.drewN q3 = wx at *
        have hsc : sp ≤ c1 := by omega
        by_cases hlt : j < n
        · clear hi hz0 hz1 hz2
          have T1 := hid ((H1.out wx HB.out).take sp hle)
          have T2 := hid fun (wy : World) (hq : Qt wx wy) => (Rows2.drop (H1.out wx HB.out) sp hle).keep hq.keeps
          have T3 := hid fun (wy : World) (a2 : Option Addr) (hs2 : set.length ≤ sp) => Rows2.drop_all (w := wy) (set := set) sp hs2 a2
          by_cases hcs : c1 = sp
          · have hs2 : set.length ≤ sp := by omega
            subst hcs
            cases ho1 : occurs (set.take c1) ((j : Int) + 1) <;> cases ho2 : occurs (set.drop c1) ((j : Int) + 1)
            · have hcol : Hid (colorOf set c1 ((j : Int) + 1) = 0) := by unfold colorOf; rw [ho1, ho2]; rfl
              go_wp2_with fail
              refine (l20Occurs_any _ _ _ _ T1.out (by omega) (by omega)).mono ?_
              rintro e w4 ⟨rfl, hq4⟩
              rw [ho1]
              go_wp2_with fail
              refine (l20Occurs_any _ _ _ _ (T3.out _ _ hs2) (by omega) (by omega)).mono ?_
              rintro e w5 ⟨rfl, hq5⟩
              rw [ho2]
              have HO5 := hid (HO.out.qt (hq4.trans hq5))
              have HB5 := hid (HB.out.trans ((hq4.trans hq5).below _))
              clear hq4 hq5
              go_wp2_with (at_builtin; go_must (refine append_int 0 rfl rfl HO5.out rfl rfl (by unfold I64; omega) (by simp; omega) HB5.out.size ?_))
              intro v' w6 hown6 hbel6
              have HO6 := hid hown6
              have HB6 := hid (HB5.out.trans hbel6)
              clear hown6 hbel6
              go_wp2
              go_roundw
              case rel =>
                refine ⟨j + 1, by omega, by go_num, ?_, HB6.out⟩
                rw [List.range_succ, List.map_append, List.map_cons, List.map_nil, hcol.out]
                exact HO6.out
              case measure => simp [intOf]; omega
            · have hcol : Hid (colorOf set c1 ((j : Int) + 1) = 2) := by unfold colorOf; rw [ho1, ho2]; rfl
              go_wp2_with fail
              refine (l20Occurs_any _ _ _ _ T1.out (by omega) (by omega)).mono ?_
              rintro e w4 ⟨rfl, hq4⟩
              rw [ho1]
              go_wp2_with fail
              refine (l20Occurs_any _ _ _ _ (T3.out _ _ hs2) (by omega) (by omega)).mono ?_
              rintro e w5 ⟨rfl, hq5⟩
              rw [ho2]
              have HO5 := hid (HO.out.qt (hq4.trans hq5))
              have HB5 := hid (HB.out.trans ((hq4.trans hq5).below _))
              clear hq4 hq5
              go_wp2_with (at_builtin; go_must (refine append_int 2 rfl rfl HO5.out rfl rfl (by unfold I64; omega) (by simp; omega) HB5.out.size ?_))
              intro v' w6 hown6 hbel6
              have HO6 := hid hown6
              have HB6 := hid (HB5.out.trans hbel6)
              clear hown6 hbel6
              go_wp2
              go_roundw
              case rel =>
                refine ⟨j + 1, by omega, by go_num, ?_, HB6.out⟩
                rw [List.range_succ, List.map_append, List.map_cons, List.map_nil, hcol.out]
                exact HO6.out
              case measure => simp [intOf]; omega
            · have hcol : Hid (colorOf set c1 ((j : Int) + 1) = 1) := by unfold colorOf; rw [ho1, ho2]; rfl
              go_wp2_with fail
              refine (l20Occurs_any _ _ _ _ T1.out (by omega) (by omega)).mono ?_
              rintro e w4 ⟨rfl, hq4⟩
              rw [ho1]
              go_wp2_with fail
              refine (l20Occurs_any _ _ _ _ (T3.out _ _ hs2) (by omega) (by omega)).mono ?_
              rintro e w5 ⟨rfl, hq5⟩
              rw [ho2]
              have HO5 := hid (HO.out.qt (hq4.trans hq5))
              have HB5 := hid (HB.out.trans ((hq4.trans hq5).below _))
              clear hq4 hq5
              go_wp2_with (at_builtin; go_must (refine append_int 1 rfl rfl HO5.out rfl rfl (by unfold I64; omega) (by simp; omega) HB5.out.size ?_))
              intro v' w6 hown6 hbel6
              have HO6 := hid hown6
              have HB6 := hid (HB5.out.trans hbel6)
              clear hown6 hbel6
              go_wp2
              go_roundw
              case rel =>
                refine ⟨j + 1, by omega, by go_num, ?_, HB6.out⟩
                rw [List.range_succ, List.map_append, List.map_cons, List.map_nil, hcol.out]
                exact HO6.out
              case measure => simp [intOf]; omega
            · have hcol : Hid (colorOf set c1 ((j : Int) + 1) = 3) := by unfold colorOf; rw [ho1, ho2]; rfl
              go_wp2_with fail
              refine (l20Occurs_any _ _ _ _ T1.out (by omega) (by omega)).mono ?_
              rintro e w4 ⟨rfl, hq4⟩
              rw [ho1]
              go_wp2_with fail
              refine (l20Occurs_any _ _ _ _ (T3.out _ _ hs2) (by omega) (by omega)).mono ?_
              rintro e w5 ⟨rfl, hq5⟩
              rw [ho2]
              have HO5 := hid (HO.out.qt (hq4.trans hq5))
              have HB5 := hid (HB.out.trans ((hq4.trans hq5).below _))
              clear hq4 hq5
              go_wp2_with (at_builtin; go_must (refine append_int 3 rfl rfl HO5.out rfl rfl (by unfold I64; omega) (by simp; omega) HB5.out.size ?_))
              intro v' w6 hown6 hbel6
              have HO6 := hid hown6
              have HB6 := hid (HB5.out.trans hbel6)
              clear hown6 hbel6
              go_wp2
              go_roundw
              case rel =>
                refine ⟨j + 1, by omega, by go_num, ?_, HB6.out⟩
                rw [List.range_succ, List.map_append, List.map_cons, List.map_nil, hcol.out]
                exact HO6.out
              case measure => simp [intOf]; omega
          · cases ho1 : occurs (set.take sp) ((j : Int) + 1) <;> cases ho2 : occurs (set.drop sp) ((j : Int) + 1)
            · have hcol : Hid (colorOf set sp ((j : Int) + 1) = 0) := by unfold colorOf; rw [ho1, ho2]; rfl
              go_wp2_with fail
              refine (l20Occurs_any _ _ _ _ T1.out (by omega) (by omega)).mono ?_
              rintro e w4 ⟨rfl, hq4⟩
              rw [ho1]
              go_wp2_with fail
              refine (l20Occurs_any _ _ _ _ (T2.out _ hq4) (by omega) (by omega)).mono ?_
              rintro e w5 ⟨rfl, hq5⟩
              rw [ho2]
              have HO5 := hid (HO.out.qt (hq4.trans hq5))
              have HB5 := hid (HB.out.trans ((hq4.trans hq5).below _))
              clear hq4 hq5
              go_wp2_with (at_builtin; go_must (refine append_int 0 rfl rfl HO5.out rfl rfl (by unfold I64; omega) (by simp; omega) HB5.out.size ?_))
              intro v' w6 hown6 hbel6
              have HO6 := hid hown6
              have HB6 := hid (HB5.out.trans hbel6)
              clear hown6 hbel6
              go_wp2
              go_roundw
              case rel =>
                refine ⟨j + 1, by omega, by go_num, ?_, HB6.out⟩
                rw [List.range_succ, List.map_append, List.map_cons, List.map_nil, hcol.out]
                exact HO6.out
              case measure => simp [intOf]; omega
            · have hcol : Hid (colorOf set sp ((j : Int) + 1) = 2) := by unfold colorOf; rw [ho1, ho2]; rfl
              go_wp2_with fail
              refine (l20Occurs_any _ _ _ _ T1.out (by omega) (by omega)).mono ?_
              rintro e w4 ⟨rfl, hq4⟩
              rw [ho1]
              go_wp2_with fail
              refine (l20Occurs_any _ _ _ _ (T2.out _ hq4) (by omega) (by omega)).mono ?_
              rintro e w5 ⟨rfl, hq5⟩
              rw [ho2]
              have HO5 := hid (HO.out.qt (hq4.trans hq5))
              have HB5 := hid (HB.out.trans ((hq4.trans hq5).below _))
              clear hq4 hq5
              go_wp2_with (at_builtin; go_must (refine append_int 2 rfl rfl HO5.out rfl rfl (by unfold I64; omega) (by simp; omega) HB5.out.size ?_))
              intro v' w6 hown6 hbel6
              have HO6 := hid hown6
              have HB6 := hid (HB5.out.trans hbel6)
              clear hown6 hbel6
              go_wp2
              go_roundw
              case rel =>
                refine ⟨j + 1, by omega, by go_num, ?_, HB6.out⟩
                rw [List.range_succ, List.map_append, List.map_cons, List.map_nil, hcol.out]
                exact HO6.out
              case measure => simp [intOf]; omega
            · have hcol : Hid (colorOf set sp ((j : Int) + 1) = 1) := by unfold colorOf; rw [ho1, ho2]; rfl
              go_wp2_with fail
              refine (l20Occurs_any _ _ _ _ T1.out (by omega) (by omega)).mono ?_
              rintro e w4 ⟨rfl, hq4⟩
              rw [ho1]
              go_wp2_with fail
              refine (l20Occurs_any _ _ _ _ (T2.out _ hq4) (by omega) (by omega)).mono ?_
              rintro e w5 ⟨rfl, hq5⟩
              rw [ho2]
              have HO5 := hid (HO.out.qt (hq4.trans hq5))
              have HB5 := hid (HB.out.trans ((hq4.trans hq5).below _))
              clear hq4 hq5
              go_wp2_with (at_builtin; go_must (refine append_int 1 rfl rfl HO5.out rfl rfl (by unfold I64; omega) (by simp; omega) HB5.out.size ?_))
              intro v' w6 hown6 hbel6
              have HO6 := hid hown6
              have HB6 := hid (HB5.out.trans hbel6)
              clear hown6 hbel6
              go_wp2
              go_roundw
              case rel =>
                refine ⟨j + 1, by omega, by go_num, ?_, HB6.out⟩
                rw [List.range_succ, List.map_append, List.map_cons, List.map_nil, hcol.out]
                exact HO6.out
              case measure => simp [intOf]; omega
            · have hcol : Hid (colorOf set sp ((j : Int) + 1) = 3) := by unfold colorOf; rw [ho1, ho2]; rfl
              go_wp2_with fail
              refine (l20Occurs_any _ _ _ _ T1.out (by omega) (by omega)).mono ?_
              rintro e w4 ⟨rfl, hq4⟩
              rw [ho1]
              go_wp2_with fail
              refine (l20Occurs_any _ _ _ _ (T2.out _ hq4) (by omega) (by omega)).mono ?_
              rintro e w5 ⟨rfl, hq5⟩
              rw [ho2]
              have HO5 := hid (HO.out.qt (hq4.trans hq5))
              have HB5 := hid (HB.out.trans ((hq4.trans hq5).below _))
              clear hq4 hq5
              go_wp2_with (at_builtin; go_must (refine append_int 3 rfl rfl HO5.out rfl rfl (by unfold I64; omega) (by simp; omega) HB5.out.size ?_))
              intro v' w6 hown6 hbel6
              have HO6 := hid hown6
              have HB6 := hid (HB5.out.trans hbel6)
              clear hown6 hbel6
              go_wp2
              go_roundw
              case rel =>
                refine ⟨j + 1, by omega, by go_num, ?_, HB6.out⟩
                rw [List.range_succ, List.map_append, List.map_cons, List.map_nil, hcol.out]
                exact HO6.out
              case measure => simp [intOf]; omega
        · go_wp2
          go_ret2
          have hjn : j = n := by omega
          subst hjn
          refine ⟨_, _, true, rfl, HO.out.fresh, HB.out, rfl, ?_⟩
          rw [if_pos rfl]
          unfold colorList
          rw [hn.out]; simp
end Go.Proofs.Ytggialagjkhdfaa
