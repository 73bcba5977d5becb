/-
  Contracts of functions of the program and of its laws, over plain data.
  Conditions: those that each theorem names.
-/
import Derived.Test.YtgfjbbbkploonaaI10
import Derived.Test.YtgfjbbbkploonaaJn
namespace Go.Proofs.Ytgfjbbbkploonaa
set_option linter.unusedSimpArgs false
set_option linter.unusedVariables false
open Go.RowKit
theorem joinTail_snoc (sep : Str) (r : List Str) (x : Str) : Lib.joinTail sep (r ++ [x]) = Lib.joinTail sep r ++ sep ++ x := by simp [Lib.joinTail]
theorem join_snoc (sep : Str) (xs : List Str) (x : Str) (h : xs ≠ []) : Lib.join (xs ++ [x]) sep = Lib.join xs sep ++ sep ++ x := by
  cases xs with
  | nil => exact absurd rfl h
  | cons a r => rw [List.cons_append, Lib.join_cons, Lib.join_cons, joinTail_snoc]; simp
theorem join_le (sep : Str) (xs : List Str) : (Lib.join xs sep).length ≤ sep.length * xs.length + (xs.map List.length).sum := by
  cases xs with
  | nil => simp [Lib.join_nil]
  | cons a r =>
    rw [Lib.join_length]
    have e : Lib.lens (a :: r) = ((a :: r).map List.length).sum := rfl
    rw [e]
    simp only [List.length_cons, Nat.mul_succ]
    omega
/-- The text of a call of a function. -/
def callText (n : Str) (rs : List Str) : Str := if rs = [] then n else n ++ [40] ++ Lib.join rs [44] ++ [41]
def Tm.text : Tm → Str := Tm.fold fun n _ rs => if n = [61] then rs.getD 0 [] ++ [32, 61, 32] ++ rs.getD 1 [] else callText n rs
theorem Tm.text_eq (a : Tm) : a.text = if a.name = [61] then (a.args.map Tm.text).getD 0 [] ++ [32, 61, 32] ++ (a.args.map Tm.text).getD 1 [] else callText a.name (a.args.map Tm.text) := Tm.fold_eq _ a
/-- Each equation has two sides. -/
def Tm.fine : Tm → Bool := Tm.fold fun n xs rs => (decide (n ≠ [61]) || decide (2 ≤ xs.length)) && rs.all id
theorem Tm.fine_eq (a : Tm) : a.fine = ((decide (a.name ≠ [61]) || decide (2 ≤ a.args.length)) && a.args.all Tm.fine) := by
  rw [show a.fine = ((decide (a.name ≠ [61]) || decide (2 ≤ a.args.length)) && (a.args.map Tm.fine).all id) from Tm.fold_eq _ a, List.all_map]; rfl
theorem Tm.fine_two {a : Tm} (h : a.fine = true) (hn : a.name = [61]) : 2 ≤ a.args.length := by
  rw [Tm.fine_eq, hn] at h; simp at h; exact h.1
theorem Tm.fine_arg {a : Tm} (h : a.fine = true) : ∀ x ∈ a.args, x.fine = true := by
  rw [Tm.fine_eq, Bool.and_eq_true, List.all_eq_true] at h; exact h.2
theorem sum_map_le {α : Type} (f g : α → Nat) : ∀ (xs : List α), (∀ x ∈ xs, f x ≤ g x) → (xs.map f).sum ≤ (xs.map g).sum
  | [], _ => by simp
  | a :: xs, h => by
    have h1 := h a (by simp)
    have h2 := sum_map_le f g xs fun x hx => h x (by simp [hx])
    simp; omega
theorem sum_mul {α : Type} (f : α → Nat) (k : Nat) : ∀ (xs : List α), (xs.map fun x => k * f x).sum = k * (xs.map f).sum
  | [] => by simp
  | a :: xs => by simp [sum_mul f k xs, Nat.mul_add]
theorem two_sum {α : Type} (f : α → Nat) (xs : List α) (h : 2 ≤ xs.length) : f (xs[0]'(by omega)) + f (xs[1]'(by omega)) ≤ (xs.map f).sum := by
  rcases xs with _ | ⟨a, _ | ⟨b, xs⟩⟩
  · simp at h
  · simp at h
  · simp <;> omega
theorem text_len : ∀ a : Tm, a.fine = true → a.text.length ≤ 3 * a.wt := tm_ind fun n xs ih hf => by
  have hx := Tm.fine_arg hf
  have hw := (Tm.mk n xs).wt_eq
  have ht := (Tm.mk n xs).text_eq
  have hS : (xs.map fun x => x.text.length).sum ≤ 3 * (xs.map Tm.wt).sum := by
    rw [← sum_mul]; exact sum_map_le _ _ xs fun x h => ih x h (hx x h)
  change (Tm.mk n xs).wt = n.length + xs.length + (xs.map Tm.wt).sum at hw
  change (Tm.mk n xs).text = if n = [61] then (xs.map Tm.text).getD 0 [] ++ [32, 61, 32] ++ (xs.map Tm.text).getD 1 [] else callText n (xs.map Tm.text) at ht
  rw [ht]
  by_cases hn : n = [61]
  · have h2 : 2 ≤ xs.length := Tm.fine_two hf hn
    have := two_sum (fun x => x.text.length) xs h2
    rw [if_pos hn, show (xs.map Tm.text).getD 0 [] = (xs[0]'(by omega)).text by simp [List.getD, show 0 < xs.length by omega], show (xs.map Tm.text).getD 1 [] = (xs[1]'(by omega)).text by simp [List.getD, show 1 < xs.length by omega]]
    simp only [List.length_append, List.length_cons, List.length_nil]
    omega
  · rw [if_neg hn]
    unfold callText
    by_cases h0 : xs = []
    · subst h0; simp; omega
    · have hl : 0 < xs.length := List.length_pos_iff.2 h0
      rw [if_neg (by simpa using h0)]
      have hj := join_le [44] (xs.map Tm.text)
      rw [List.map_map, List.length_map] at hj
      simp only [List.length_append, List.length_cons, List.length_nil]
      have : (xs.map (List.length ∘ Tm.text)).sum = (xs.map fun x => x.text.length).sum := rfl
      simp only [List.length_cons, List.length_nil] at hj
      omega
/-- The text of the first ones. -/
def partText (n : Str) (rs : List Str) (k : Nat) : Str := if k = 0 then n else n ++ [40] ++ Lib.join (rs.take k) [44]
theorem partText_one (n : Str) (rs : List Str) (h : 0 < rs.length) : partText n rs 1 = n ++ ([40] : Str) ++ rs[0] := by
  cases rs with
  | nil => simp at h
  | cons a r => simp [partText, Lib.join_one]
theorem partText_succ (n : Str) (rs : List Str) (k : Nat) (h : k < rs.length) (h0 : k ≠ 0) : partText n rs (k + 1) = partText n rs k ++ ([44] : Str) ++ rs[k] := by
  unfold partText
  rw [if_neg (by omega), if_neg h0, List.take_succ_eq_append_getElem h, join_snoc _ _ _ (by
    intro e
    have : (rs.take k).length = 0 := by rw [e]; rfl
    rw [List.length_take] at this; omega)]
  simp
theorem join_take_le (sep : Str) (xs : List Str) (k : Nat) : (Lib.join (xs.take k) sep).length ≤ sep.length * xs.length + (xs.map List.length).sum := by
  refine Nat.le_trans (join_le sep (xs.take k)) ?_
  have h1 : (xs.take k).length ≤ xs.length := by rw [List.length_take]; omega
  have h2 := Nat.mul_le_mul_left sep.length h1
  have h3 := psum_le List.length xs k
  unfold psum at h3
  omega
theorem partText_le (n : Str) (rs : List Str) (k : Nat) : (partText n rs k).length ≤ n.length + 1 + (rs.length + (rs.map List.length).sum) := by
  unfold partText
  split
  · omega
  · have := join_take_le [44] rs k
    simp only [List.length_append, List.length_cons, List.length_nil] at this ⊢
    omega
theorem args_text {a : Tm} (hf : a.fine = true) : ((a.args.map Tm.text).map List.length).sum ≤ 3 * (a.args.map Tm.wt).sum := by
  rw [List.map_map, ← sum_mul]
  exact sum_map_le _ _ a.args fun x h => text_len x (Tm.fine_arg hf x h)
theorem part_text {a : Tm} (hs : a.wt ≤ 1099511627776) (hf : a.fine = true) (k : Nat) : (partText a.name (a.args.map Tm.text) k).length ≤ 4398046511104 := by
  have h1 := partText_le a.name (a.args.map Tm.text) k
  have h2 := args_text hf
  rw [a.wt_eq] at hs
  rw [List.length_map] at h1
  omega
theorem part_all (n : Str) (rs : List Str) (k : Nat) (h : k = rs.length) (h0 : k ≠ 0) : partText n rs k ++ [41] = callText n rs := by
  unfold partText callText
  have : rs ≠ [] := fun e => by subst e; exact h0 h
  rw [if_neg h0, if_neg this, List.take_of_length_le (by omega)]
theorem part_none (n : Str) (rs : List Str) (h : rs.length = 0) : n = callText n rs := by
  unfold callText
  rw [if_pos (List.length_eq_zero_iff.1 h)]
end Go.Proofs.Ytgfjbbbkploonaa
