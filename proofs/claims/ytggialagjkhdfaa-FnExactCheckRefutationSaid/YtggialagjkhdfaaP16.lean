/-
  Plain facts on resolvents of propositional clauses.
  Conditions: none.
-/
import Derived.Test.YtggialagjkhdfaaP15
namespace Go.Proofs.Ytggialagjkhdfaa

/-- A literal put at its position. -/
def put (x : Int) : List Int → List Int
  | [] => [x]
  | y :: ys => if abs64 y < abs64 x then y :: put x ys else x :: y :: ys
theorem put_split {x : Int} (k : Nat) : ∀ (c : List Int) (_ : k ≤ c.length) (_ : ∀ j (h : j < c.length), j < k → abs64 c[j] < abs64 x) (_ : ∀ h : k < c.length, ¬ abs64 c[k] < abs64 x), put x c = c.take k ++ (x :: c.drop k) := by
  induction k with
  | zero =>
    intro c _ _ h2
    cases c with
    | nil => rfl
    | cons y ys => rw [put, if_neg (show ¬ abs64 y < abs64 x from h2 (Nat.zero_lt_succ _))]; rfl
  | succ k ih =>
    intro c hk h1 h2
    cases c with
    | nil => simp at hk
    | cons y ys =>
      rw [put, if_pos (show abs64 y < abs64 x from h1 0 (Nat.zero_lt_succ _) (Nat.zero_lt_succ _)), ih ys (by simpa using hk) (fun j h hj => h1 (j + 1) (Nat.succ_lt_succ h) (Nat.succ_lt_succ hj)) (fun h => h2 (Nat.succ_lt_succ h))]
      rfl
theorem put_len (x : Int) : ∀ (c : List Int), (put x c).length = c.length + 1
  | [] => rfl
  | y :: ys => by rw [put]; split <;> simp [put_len x ys]
theorem put_mem (x z : Int) : ∀ (c : List Int), z ∈ put x c ↔ z = x ∨ z ∈ c
  | [] => by simp [put]
  | y :: ys => by
    rw [put]
    split
    · simp only [List.mem_cons, put_mem x z ys]; constructor
      · rintro (h | h | h)
        · exact Or.inr (Or.inl h)
        · exact Or.inl h
        · exact Or.inr (Or.inr h)
      · rintro (h | h | h)
        · exact Or.inr (Or.inl h)
        · exact Or.inl h
        · exact Or.inr (Or.inr h)
    · simp


/-- The reference's resolvent, behind the first clause. -/
def resB (out : List Int) (v : Int) : List Int → Option (List Int)
  | [] => some out
  | x :: xs => if x = -v then resB out v xs else if out.contains x then resB out v xs else if out.contains (-x) then none else resB (put x out) v xs
def dropV (v : Int) : List Int → List Int
  | [] => []
  | x :: xs => if x = v then dropV v xs else x :: dropV v xs
def resolve (a b : List Int) (v : Int) : Option (List Int) := if a.contains v = true ∧ b.contains (-v) = true then resB (dropV v a) v b else none
theorem dropV_le (v : Int) : ∀ (a : List Int), (dropV v a).length ≤ a.length
  | [] => Nat.le_refl _
  | x :: xs => by rw [dropV]; split <;> simp only [List.length_cons] <;> have := dropV_le v xs <;> omega
theorem dropV_mem {v x : Int} : ∀ {a : List Int}, x ∈ dropV v a → x ∈ a
  | [], h => by simp [dropV] at h
  | y :: ys, h => by
    rw [dropV] at h
    split at h
    · exact List.mem_cons_of_mem _ (dropV_mem h)
    · rcases List.mem_cons.1 h with rfl | h
      · simp
      · exact List.mem_cons_of_mem _ (dropV_mem h)


theorem clauseFrom_mono : ∀ (c : List Int) (p q : Int), q ≤ p → clauseFrom p c = true → clauseFrom q c = true
  | [], _, _, _, _ => rfl
  | x :: c, p, q, h, hc => by
    rw [clauseFrom, Bool.and_eq_true, Bool.and_eq_true, decide_eq_true_eq] at hc ⊢
    exact ⟨⟨hc.1.1, by omega⟩, hc.2⟩
theorem clauseFrom_len : ∀ (c : List Int) (p : Int), 0 ≤ p → p ≤ 12 → clauseFrom p c = true → (c.length : Int) ≤ 12 - p
  | [], p, _, _, _ => by simp; omega
  | x :: c, p, h0, h1, hc => by
    rw [clauseFrom, Bool.and_eq_true, Bool.and_eq_true, decide_eq_true_eq, inB_iff] at hc
    have := clauseFrom_len c (abs64 x) (by omega) (by omega) hc.2
    simp only [List.length_cons]
    omega
theorem isClause_len {c : List Int} (h : isClause c = true) : c.length ≤ 12 := by
  have := clauseFrom_len c 0 (by omega) (by omega) h
  omega
theorem abs_bound {x : Int} (h1 : 1 ≤ abs64 x) (h2 : abs64 x ≤ 12) : -12 ≤ x ∧ x ≤ 12 ∧ x ≠ 0 := by
  unfold abs64 at *; split at h1 <;> (try split at h1) <;> simp_all <;> omega
theorem isClause_bound {c : List Int} (h : isClause c = true) : ∀ x ∈ c, -12 ≤ x ∧ x ≤ 12 := fun x hx => by
  have h1 := clause_mem c 0 h x hx
  have h2 := abs_bound h1.1 h1.2
  exact ⟨h2.1, h2.2.1⟩
theorem abs_eq {x y : Int} (h1 : 1 ≤ abs64 x) (h2 : abs64 x ≤ 12) (h : abs64 y = abs64 x) : y = x ∨ y = -x := by
  have hx := abs_bound h1 h2
  have hy := abs_bound (by omega : 1 ≤ abs64 y) (by omega)
  have ex : abs64 x = if x < 0 then -x else x := by unfold abs64; split <;> (try split) <;> omega
  have ey : abs64 y = if y < 0 then -y else y := by unfold abs64; split <;> (try split) <;> omega
  rw [ex, ey] at h
  split at h <;> split at h <;> omega
theorem put_clause {x : Int} (h1 : 1 ≤ abs64 x) (h2 : abs64 x ≤ 12) : ∀ (c : List Int) (p : Int), p < abs64 x → clauseFrom p c = true → (∀ y ∈ c, abs64 y ≠ abs64 x) → clauseFrom p (put x c) = true
  | [], p, hp, _, _ => by
    rw [put, clauseFrom, Bool.and_eq_true, Bool.and_eq_true, decide_eq_true_eq, inB_iff]
    exact ⟨⟨⟨h1, h2⟩, hp⟩, rfl⟩
  | y :: ys, p, hp, hc, hne => by
    rw [clauseFrom, Bool.and_eq_true, Bool.and_eq_true, decide_eq_true_eq] at hc
    rw [put]
    split
    · rename_i hlt
      rw [clauseFrom, Bool.and_eq_true, Bool.and_eq_true, decide_eq_true_eq]
      exact ⟨hc.1, put_clause h1 h2 ys _ hlt hc.2 fun z hz => hne z (by simp [hz])⟩
    · rename_i hge
      have := hne y (by simp)
      rw [clauseFrom, clauseFrom, Bool.and_eq_true, Bool.and_eq_true, Bool.and_eq_true, Bool.and_eq_true, decide_eq_true_eq, decide_eq_true_eq, inB_iff]
      exact ⟨⟨⟨h1, h2⟩, hp⟩, ⟨hc.1.1, by omega⟩, hc.2⟩
theorem dropV_clause (v : Int) : ∀ (c : List Int) (p : Int), clauseFrom p c = true → clauseFrom p (dropV v c) = true
  | [], _, _ => rfl
  | x :: c, p, hc => by
    rw [clauseFrom, Bool.and_eq_true, Bool.and_eq_true, decide_eq_true_eq] at hc
    rw [dropV]
    split
    · exact clauseFrom_mono _ _ p (by omega) (dropV_clause v c _ hc.2)
    · rw [clauseFrom, Bool.and_eq_true, Bool.and_eq_true, decide_eq_true_eq]
      exact ⟨hc.1, dropV_clause v c _ hc.2⟩
theorem resB_clause {v : Int} : ∀ (b out r : List Int), isClause out = true → (∀ x ∈ b, 1 ≤ abs64 x ∧ abs64 x ≤ 12) → resB out v b = some r → isClause r = true
  | [], out, r, ho, _, h => by rw [resB] at h; cases h; exact ho
  | x :: b, out, r, ho, hb, h => by
    have hb' : ∀ y ∈ b, 1 ≤ abs64 y ∧ abs64 y ≤ 12 := fun y hy => hb y (by simp [hy])
    rw [resB] at h
    split at h
    · exact resB_clause b out r ho hb' h
    · split at h
      · exact resB_clause b out r ho hb' h
      · split at h
        · cases h
        · rename_i h1 h2 h3
          obtain ⟨hx1, hx2⟩ := hb x (by simp)
          refine resB_clause b _ r (put_clause hx1 hx2 out 0 (by omega) ho fun y hy e => ?_) hb' h
          rcases abs_eq hx1 hx2 e with rfl | rfl
          · exact h2 (List.contains_iff_mem.2 hy)
          · exact h3 (List.contains_iff_mem.2 hy)
theorem resolve_clause {a b : List Int} {v : Int} {r : List Int} (ha : isClause a = true) (hb : isClause b = true) (h : resolve a b v = some r) : isClause r = true := by
  unfold resolve at h
  split at h
  · exact resB_clause b _ r (dropV_clause v a 0 ha) (clause_mem b 0 hb) h
  · cases h

end Go.Proofs.Ytggialagjkhdfaa
