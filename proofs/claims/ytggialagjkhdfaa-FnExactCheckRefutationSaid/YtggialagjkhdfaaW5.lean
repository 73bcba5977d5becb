/-
  Contracts of functions of the program and of its laws: markIntSS, eqIntSS.
  Conditions: those that each theorem names.
-/
import Derived.Test.YtggialagjkhdfaaW4
namespace Go.Proofs.Ytggialagjkhdfaa
open Go.RowKit

/-- An owned slice of one-cell elements, element by element. -/
theorem Own.sl1_form {w : World} {v : Value} {xs : List D} {fp : List Nat} (h : Own w (.sl 1 xs) [v] fp) :
    ∃ ao cap, v = .slice ao xs.length cap ∧ xs.length ≤ cap ∧ cap ≤ 9223372036854775807 ∧
      ((xs = [] ∧ fp = []) ∨ ∃ (b o : Nat) (cells : Array Value) (e : TypeId) (us : List Value) (fps : List (List Nat)), ao = some ⟨b, o, none⟩ ∧ fp = b :: List.flatten fps ∧ w.heap[b]? = some (.cells cells e (0, 0)) ∧ us.length = xs.length ∧ fps.length = xs.length ∧
        ∀ j (hj : j < xs.length) (h1 : j < us.length) (h2 : j < fps.length), cells[o + j]? = some us[j] ∧ Own w xs[j] [us[j]] fps[j]) := by
  obtain ⟨ao, cap, h1, h2, h3, h4⟩ := h
  refine ⟨ao, cap, by simpa using h1, h2, h3, ?_⟩
  rcases h4 with h4 | ⟨b, o, cells, e, vss, fps, r1, r2, r3, r4, r5⟩
  · exact Or.inl h4
  · right
    obtain ⟨l1, l2, l3⟩ := OwnL.lengths xs vss fps r5
    have hv : ∀ j (hj : j < vss.length), vss[j] = [vss[j].headD undef] := fun j hj => by
      have := l3 vss[j] (List.getElem_mem hj)
      match hvj : vss[j], this with
      | [u], _ => rfl
    refine ⟨b, o, cells, e, vss.map (·.headD undef), fps, r1, r2, r3, by simpa using l1, l2, fun j hj h1 h2 => ?_⟩
    rw [List.length_map] at h1
    have hO := OwnL.at xs vss fps r5 j hj h1 h2
    rw [List.getElem_map]
    refine ⟨?_, ?_⟩
    · have := row_cells r3 r4 l3 j h1 0 (vss[j].headD undef) (by rw [hv j h1]; rfl)
      rw [cell_block r3] at this
      simpa using this
    · rw [hv j h1] at hO; exact hO

theorem flatten_split {α : Type} (l : List (List α)) (j : Nat) (hj : j < l.length) : List.flatten l = List.flatten (l.take j) ++ (l[j] ++ List.flatten (l.drop (j + 1))) := by
  rw [← List.flatten_cons, ← drop_cons hj, ← List.flatten_append, List.take_append_drop]

theorem mem_flatten_take {α : Type} {l : List (List α)} {j : Nat} {x : α} (h : x ∈ List.flatten (l.take j)) : x ∈ List.flatten l := by
  rw [List.mem_flatten] at h ⊢
  obtain ⟨y, hy, hx⟩ := h
  exact ⟨y, List.mem_of_mem_take hy, hx⟩

/-- What is in the j-th part is in no earlier one. -/
theorem nodup_part {l : List (List Nat)} (hn : (List.flatten l).Nodup) (j : Nat) (hj : j < l.length) : ∀ k ∈ l[j], k ∉ List.flatten (l.take j) := by
  intro k hk hk'
  rw [flatten_split l j hj, List.nodup_append] at hn
  exact hn.2.2 k hk' k (List.mem_append_left _ hk) rfl
theorem flatten_take_succ {α : Type} (l : List (List α)) (j : Nat) (hj : j < l.length) : List.flatten (l.take (j + 1)) = List.flatten (l.take j) ++ l[j] := by
  rw [List.take_succ_eq_append_getElem hj, List.flatten_append, List.flatten_cons, List.flatten_nil, List.append_nil]

/-- How many numbers the rows hold. -/
def tally : List (List Int) → Nat
  | [] => 0
  | x :: xs => x.length + tally xs

set_option maxHeartbeats 400000 in
theorem markIntSS_any (v : Value) (xss : List (List Int)) (fp : List Nat) (k : Int) (w : World) (h1 : Own w (rows xss) [v] fp) (hn : fp.Nodup) (hk : 0 ≤ k) (hk2 : k + tally xss ≤ 1099511627776) :
    Calls Try.prog 18 #[v, .int .i64 k] w fun e w' => e = .returned (.int .i64 (k + tally xss)) ∧ Writes fp w w' := by
  obtain ⟨a1, c1, rfl, k1, m1, r1⟩ := Own.sl1_form h1
  clear h1
  rcases r1 with ⟨h0, rfl⟩ | ⟨b, o, cells, e, us, fps, rfl, rfl, hb, hu, hf, hc⟩
  · have : xss = [] := by simpa using h0
    subst this
    simp only [List.map_nil, List.length_nil]
    go_enter Try.func18, Try.ntmps18
    go_wp2
    refine wp_loop_rounds 1 ?_
    rw [rounds_succ]
    go_wp2
    go_ret
    exact ⟨ret_int (by simp [tally]), Writes.refl _ _⟩
  · rw [List.length_map] at hu hf k1
    simp only [List.length_map] at hc
    simp only [List.length_map]
    rw [List.nodup_cons] at hn
    obtain ⟨hnb, hn⟩ := hn
    have HU := hid hu
    have HF := hid hf
    clear hu hf
    go_enter Try.func18, Try.ntmps18
    go_wp2
    go_loopw [1, 5] (fun l i wr => ∃ (j : Nat) (z : Int), j ≤ xss.length ∧ i = .int .i64 j ∧ l = .int .i64 z ∧ 0 ≤ z ∧ Hid (k + tally xss = z + tally (xss.drop j)) ∧ Writes (List.flatten (fps.take j)) w wr) (fun _ i _ => xss.length - (intOf i).toNat)
    case atStart => exact ⟨0, k, Nat.zero_le _, rfl, rfl, hk, hid (by simp), Writes.refl _ _⟩
    case round =>
      obtain ⟨j, z, hj, rfl, rfl, hz, ht, hw⟩ := hrel
      by_cases hlt : j < xss.length
      · have hju : j < us.length := by rw [HU.out]; exact hlt
        have hjf : j < fps.length := by rw [HF.out]; exact hlt
        obtain ⟨e1, ho⟩ := hc j hlt hju hjf
        rw [List.getElem_map] at ho
        have hlen : j < xss.length := hlt
        have hbw : wr.heap[b]? = w.heap[b]? := hw.block b (fun h => hnb (mem_flatten_take h))
        have e2 : wr.cell? ⟨b, o + j, none⟩ = some us[j] := by rw [cell_block (hbw.trans hb), e1]
        have ho' := ho.writes hw (nodup_part hn j hjf)
        have hu : Hid (k + tally xss = z + (xss[j].length + tally (xss.drop (j + 1)) : Nat)) := by
          have := ht.out
          rw [drop_cons hlt] at this
          exact this
        have hz2 : z + xss[j].length ≤ 1099511627776 := by have := hu.out; omega
        clear hc e1 ho hbw hk2
        go_wp2_with (go_at_call 19; go_must (refine (markIntS_any _ _ _ _ _ ho' hz hz2).mono ?_; rintro e w1 ⟨rfl, -, hw1⟩))
        go_roundw
        case rel =>
          refine ⟨j + 1, z + xss[j].length, by omega, by go_num, rfl, by omega, hid (by rw [hu.out]; omega), ?_⟩
          rw [flatten_take_succ fps j hjf]
          exact (hw.mono fun k hk => List.mem_append_left _ hk).trans (hw1.mono fun k hk => List.mem_append_right _ hk)
        case measure => simp [intOf]; omega
      · go_wp2
        go_ret
        have hj' : j = xss.length := by omega
        subst hj'
        refine ⟨ret_int ?_, hw.mono fun k hk => List.mem_cons_of_mem _ (mem_flatten_take hk)⟩
        rw [ht.out, List.drop_length]; simp [tally]

set_option maxHeartbeats 400000 in
theorem eqIntSS_any (v1 v2 : Value) (xs ys : List (List Int)) (w : World) (h1 : Rows2 w v1 xs) (h2 : Rows2 w v2 ys) :
    Calls Try.prog 17 #[v1, v2] w fun e w' => e = .returned (.bool (xs == ys)) ∧ Qt w w' := by
  obtain ⟨a1, c1, rfl, k1, m1, r1⟩ := h1.form
  obtain ⟨a2, c2, rfl, k2, m2, r2⟩ := h2.form
  clear h1 h2
  by_cases hl : xs.length = ys.length
  · have hne : ((xs.length : Int) != ys.length) = false := by simp [hl]
    have HL := hid hl
    have hl1 : xs.length ≤ ys.length := by omega
    clear hl
    go_enter Try.func17, Try.ntmps17
    go_wp2
    go_loopw [5] (fun i wr => ∃ k : Nat, k ≤ xs.length ∧ i = .int .i64 k ∧ Hid ((xs == ys) = (xs.drop k == ys.drop k)) ∧ Qt w wr) (fun i _ => xs.length - (intOf i).toNat)
    case atStart => exact ⟨0, Nat.zero_le _, rfl, rfl, Qt.refl w⟩
    case round =>
      obtain ⟨k, hk, rfl, ht, hq⟩ := hrel
      by_cases hlt : k < xs.length
      · have hlt2 : k < ys.length := by omega
        obtain ⟨b, o, u1, rfl, e1, hu1⟩ := r1 k hlt
        obtain ⟨b', o', u2, rfl, e2, hu2⟩ := r2 k hlt2
        have hu : Hid ((xs == ys) = (xs[k] == ys[k] && xs.drop (k + 1) == ys.drop (k + 1))) := by
          have := ht.out
          rw [drop_cons hlt, drop_cons hlt2] at this
          exact this
        have e1 := hq.keeps _ _ e1
        have e2 := hq.keeps _ _ e2
        have HC := hid fun n => eqIntS_any u1 u2 xs[k] ys[k] (wr.drewN n) (hu1.keep (hq.drewN n).keeps) (hu2.keep (hq.drewN n).keeps)
        clear r1 r2 ht hu1 hu2
        go_wp2_with fail
        go_quiet ((go_at_call 16; exact Calls.quiet_of (HC.out _)))
        go_wp2
        · rename_i hd
          go_ret
          exact ⟨ret_bool (by rw [hu.out]; simp_all), hq.drewN _⟩
        · rename_i hd
          go_roundw
          case rel => exact ⟨k + 1, by omega, by go_num, hid (by rw [hu.out]; simp_all), hq.drewN _⟩
          case measure => simp [intOf]; omega
      · go_wp2
        go_ret
        refine ⟨ret_bool ?_, hq⟩
        rw [ht.out, drop_end hlt, drop_end (by have := HL.out; omega)]; rfl
  · have hne : ((xs.length : Int) != ys.length) = true := by simp; omega
    have HL := hid hl
    clear hl r1 r2
    go_enter Try.func17, Try.ntmps17
    go_wp2
    go_ret
    refine ⟨ret_bool ?_, Qt.refl _⟩
    symm; rw [beq_eq_false_iff_ne]; intro h; exact HL.out (by rw [h])
end Go.Proofs.Ytggialagjkhdfaa
