/-
  Contracts of functions of the program and of its laws: heldIntS, markIntS.
  Conditions: those that each theorem names.
-/
import Derived.Test.YtggialagjkhdfaaW3
namespace Go.Proofs.Ytggialagjkhdfaa
open Go.RowKit

/-- Marked ints: k, k+1, .. -/
def upFrom (k : Int) : Nat → List Int
  | 0 => []
  | n + 1 => k :: upFrom (k + 1) n
theorem upFrom_len (k : Int) (n : Nat) : (upFrom k n).length = n := by induction n generalizing k with | zero => rfl | succ n ih => simp [upFrom, ih]
theorem upFrom_at (n : Nat) : ∀ (k : Int) (j : Nat) (hj : j < n), (upFrom k n)[j]'(by rw [upFrom_len]; exact hj) = k + j := by
  induction n with
  | zero => intro k j hj; omega
  | succ n ih =>
    intro k j hj
    cases j with
    | zero => simp [upFrom]
    | succ j => simp only [upFrom, List.getElem_cons_succ]; rw [ih (k + 1) j (by omega)]; omega

theorem Own.ints_form {w : World} {v : Value} {xs : List Int} {fp : List Nat} (h : Own w (ints xs) [v] fp) :
    ∃ ao cap, v = .slice ao xs.length cap ∧ xs.length ≤ cap ∧ cap ≤ 9223372036854775807 ∧
      ((xs = [] ∧ fp = []) ∨ ∃ b o cells e, ao = some ⟨b, o, none⟩ ∧ fp = [b] ∧ w.heap[b]? = some (.cells cells e (0, 0)) ∧ ∀ j (hj : j < xs.length), cells[o + j]? = some (.int .i64 xs[j])) := by
  obtain ⟨ao, cap, h1, h2, h3, h4⟩ := h
  rw [List.length_map] at h1 h2
  refine ⟨ao, cap, by simpa using h1, h2, h3, ?_⟩
  rcases h4 with ⟨h4, h5⟩ | ⟨b, o, cells, e, vss, fps, r1, r2, r3, r4, r5⟩
  · exact Or.inl ⟨by simpa using h4, h5⟩
  · right
    have hf : ∀ (l : List Int) (vss : List (List Value)) (fps : List (List Nat)), OwnL w 1 (l.map .int) vss fps → vss = l.map (fun x => [.int .i64 x]) ∧ List.flatten fps = [] := by
      intro l
      induction l with
      | nil => rintro vss fps ⟨rfl, rfl⟩; exact ⟨rfl, rfl⟩
      | cons x l ih =>
        rintro vss fps ⟨vs, vss', fp, fps', rfl, rfl, e3, ⟨e4, _, e5⟩, e6⟩
        obtain ⟨i1, i2⟩ := ih _ _ e6
        exact ⟨by rw [i1, e4]; rfl, by rw [List.flatten_cons, i2, e5]; rfl⟩
    obtain ⟨f1, f2⟩ := hf xs vss fps r5
    refine ⟨b, o, cells, e, r1, by rw [r2, f2], r3, fun j hj => ?_⟩
    rw [f1, flatten_ones] at r4
    have := congrArg (fun l => l[j]?) r4
    simp only [List.getElem?_take, List.getElem?_drop, List.length_map, Nat.mul_one, if_pos hj, List.getElem?_map, List.getElem?_eq_getElem hj, Option.map_some] at this
    simpa using this

theorem Own.ints_mk {w : World} {b o n cap : Nat} {cells : Array Value} {e : TypeId} {ys : List Int} (hl : ys.length = n) (hc : n ≤ cap) (hm : cap ≤ 9223372036854775807) (hb : w.heap[b]? = some (.cells cells e (0, 0)))
    (hy : ∀ j (hj : j < ys.length), cells[o + j]? = some (.int .i64 ys[j])) (hx : ∀ x ∈ ys, I64 x) : Own w (ints ys) [.slice (some ⟨b, o, none⟩) n cap] [b] := by
  subst hl
  refine ⟨_, cap, by rw [List.length_map], by rw [List.length_map]; exact hc, hm, Or.inr ⟨b, o, cells, e, _, _, rfl, by rw [flatten_nils ys], hb, ?_, OwnL.ints ys hx⟩⟩
  rw [flatten_ones]
  apply List.ext_getElem?
  intro j
  rw [List.getElem?_take]
  simp only [List.length_map, Nat.mul_one]
  by_cases hj : j < ys.length
  · rw [if_pos hj]
    have := hy j hj
    simp only [List.getElem?_drop, List.getElem?_map, List.getElem?_eq_getElem hj, Option.map_some]
    simpa using this
  · rw [if_neg hj, List.getElem?_eq_none (by simp only [List.length_map]; omega)]

theorem Writes.setCell {fp : List Nat} {w : World} {p : Addr} (h : p.block ∈ fp) (u : Value) : Writes fp w (w.setCell p u) :=
  ⟨rfl, rfl, rfl, by simp [World.setCell], fun k hk => Below.heap_setCell _ _ _ _ (fun e => hk (e ▸ h))⟩

/-- What the check of marked ints answers. -/
def heldI (xs : List Int) (k : Int) : Int := if xs = upFrom k xs.length then k + xs.length else -1

set_option maxHeartbeats 400000 in
theorem heldIntS_any (v : Value) (xs : List Int) (k : Int) (w : World) (h1 : Ints w v xs) (hk : 0 ≤ k) (hk2 : k + xs.length ≤ 1099511627776) :
    Calls Try.prog 20 #[v, .int .i64 k] w fun e w' => e = .returned (.int .i64 (heldI xs k)) ∧ Qt w w' := by
  obtain ⟨a1, c1, rfl, k1, m1, r1⟩ := h1.form
  clear h1
  go_enter Try.func20, Try.ntmps20
  go_wp2
  go_loopw [1, 5] (fun l i wr => ∃ (j : Nat), j ≤ xs.length ∧ i = .int .i64 j ∧ l = .int .i64 (k + j) ∧ Hid ((xs = upFrom k xs.length) ↔ (xs.drop j = upFrom (k + j) (xs.length - j))) ∧ Qt w wr) (fun _ i _ => xs.length - (intOf i).toNat)
  case atStart => exact ⟨0, Nat.zero_le _, rfl, by simp, hid (by simp), Qt.refl w⟩
  case round =>
    obtain ⟨j, hj, rfl, rfl, ht, n, rfl⟩ := hrel
    by_cases hlt : j < xs.length
    · obtain ⟨-, b, o, rfl, e1⟩ := r1 j hlt
      have hu : Hid ((xs = upFrom k xs.length) ↔ (xs[j] = k + j ∧ xs.drop (j + 1) = upFrom (k + j + 1) (xs.length - (j + 1)))) := by
        have := ht.out
        rw [drop_cons hlt, show xs.length - j = (xs.length - (j + 1)) + 1 from by omega] at this
        rw [upFrom, List.cons.injEq] at this
        exact this
      clear r1 ht
      go_wp2
      · rename_i hd
        go_ret
        exact ⟨ret_int (by unfold heldI; rw [if_neg]; rw [hu.out]; intro h; simp [h.1] at hd), Qt.of _⟩
      · rename_i hd
        go_roundw
        case rel => exact ⟨j + 1, by omega, by go_num, by go_num, hid (by rw [hu.out, show k + ((j + 1 : Nat) : Int) = k + j + 1 from by omega]; simp at hd; simp [hd]), Qt.of _⟩
        case measure => simp [intOf]; omega
    · go_wp2
      go_ret
      refine ⟨ret_int ?_, Qt.of _⟩
      have hj' : j = xs.length := by omega
      subst hj'
      have := ht.out
      simp [upFrom] at this
      unfold heldI
      rw [if_pos this]

set_option maxHeartbeats 400000 in
theorem markIntS_any (v : Value) (xs : List Int) (fp : List Nat) (k : Int) (w : World) (h1 : Own w (ints xs) [v] fp) (hk : 0 ≤ k) (hk2 : k + xs.length ≤ 1099511627776) :
    Calls Try.prog 19 #[v, .int .i64 k] w fun e w' => e = .returned (.int .i64 (k + xs.length)) ∧ Own w' (ints (upFrom k xs.length)) [v] fp ∧ Writes fp w w' := by
  obtain ⟨a1, c1, rfl, k1, m1, r1⟩ := Own.ints_form h1
  rcases r1 with ⟨rfl, rfl⟩ | ⟨b, o, cells, e, rfl, rfl, hb, hc⟩
  · go_enter Try.func19, Try.ntmps19
    go_wp2
    refine wp_loop_rounds 1 ?_
    rw [rounds_succ]
    go_wp2
    go_ret
    exact ⟨ret_int (by simp), by simpa [upFrom] using h1, Writes.refl _ _⟩
  · clear h1
    go_enter Try.func19, Try.ntmps19
    go_wp2
    go_loopw [1, 5] (fun l i wr => ∃ (j : Nat), j ≤ xs.length ∧ i = .int .i64 j ∧ l = .int .i64 (k + j) ∧ (∃ cells', wr.heap[b]? = some (.cells cells' e (0, 0)) ∧ ∀ t (ht : t < xs.length), cells'[o + t]? = some (.int .i64 (if t < j then k + t else xs[t]))) ∧ Writes [b] w wr) (fun _ i _ => xs.length - (intOf i).toNat)
    case atStart => exact ⟨0, Nat.zero_le _, rfl, by simp, ⟨cells, hb, fun t ht => by simp [hc t ht]⟩, Writes.refl _ _⟩
    case round =>
      obtain ⟨j, hj, rfl, rfl, ⟨cells', hcl, ht⟩, hw⟩ := hrel
      by_cases hlt : j < xs.length
      · have e1 := cell_block hcl (o + j)
        rw [ht j hlt] at e1
        have e2 : wr.frozen? ⟨b, o + j, none⟩ = false := by simp [World.frozen?, hcl]
        rw [if_neg (Nat.lt_irrefl j)] at e1
        have HT := hid ht
        have HCL := hid hcl
        clear ht hcl hb hc
        go_wp2
        have ht := HT.out
        have hcl := HCL.out
        go_roundw
        case rel =>
          refine ⟨j + 1, by omega, by go_num, by go_num, ⟨cells'.setIfInBounds (o + j) (.int .i64 (k + j)), by simp [World.setCell, Array.getElem?_modify, hcl], fun t htt => ?_⟩, hw.trans (Writes.setCell (by simp) _)⟩
          have hsz : o + j < cells'.size := (Array.getElem?_eq_some_iff.1 (ht j hlt)).1
          rw [Array.getElem?_setIfInBounds]
          by_cases hjt : j = t
          · subst hjt; simp [hsz]
          · rw [if_neg (by omega), ht t htt]
            by_cases h2 : t < j
            · rw [if_pos h2, if_pos (by omega)]
            · rw [if_neg h2, if_neg (by omega)]
        case measure => simp [intOf]; omega
      · go_wp2
        go_ret
        have hj' : j = xs.length := by omega
        subst hj'
        refine ⟨rfl, Own.ints_mk (upFrom_len k xs.length) k1 m1 hcl (fun t htt => ?_) ?_, hw⟩
        · rw [upFrom_len] at htt
          rw [ht t htt, if_pos htt, upFrom_at _ _ _ htt]
        · intro x hx
          obtain ⟨i, hi, rfl⟩ := List.mem_iff_getElem.1 hx
          rw [upFrom_len] at hi
          rw [upFrom_at _ _ _ hi]
          unfold I64; omega
end Go.Proofs.Ytggialagjkhdfaa
