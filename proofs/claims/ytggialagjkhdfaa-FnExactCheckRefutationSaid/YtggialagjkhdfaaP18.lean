/-
  Plain facts on the resolvents that impl finds.
  Conditions: none.
-/
import Derived.Test.YtggialagjkhdfaaP17
namespace Go.Proofs.Ytggialagjkhdfaa

theorem sorted_append : ∀ (xs acc ys : List Int), sorted acc (xs ++ ys) = sorted (sorted acc xs) ys
  | [], _, _ => rfl
  | x :: xs, acc, ys => by rw [List.cons_append, sorted, sorted, sorted_append xs]
theorem sorted_mem (z : Int) : ∀ (xs acc : List Int), z ∈ sorted acc xs ↔ z ∈ acc ∨ z ∈ xs
  | [], acc => by simp [sorted]
  | x :: xs, acc => by
    rw [sorted, sorted_mem z xs, insA_mem]
    simp only [List.mem_cons]
    constructor
    · rintro ((h | h) | h)
      · exact Or.inr (Or.inl h)
      · exact Or.inl h
      · exact Or.inr (Or.inr h)
    · rintro (h | h | h)
      · exact Or.inl (Or.inr h)
      · exact Or.inl (Or.inl h)
      · exact Or.inr h
theorem insA_last (x : Int) : ∀ (l : List Int), (∀ y ∈ l, abs64 y ≤ abs64 x) → insA x l = l ++ [x]
  | [], _ => rfl
  | y :: ys, h => by
    rw [insA, if_neg (by have := h y (by simp); omega), insA_last x ys fun z hz => h z (by simp [hz])]
    rfl
theorem sorted_clause : ∀ (xs acc : List Int) (p : Int), (∀ y ∈ acc, abs64 y ≤ p) → clauseFrom p xs = true → sorted acc xs = acc ++ xs
  | [], acc, _, _, _ => by simp [sorted]
  | x :: xs, acc, p, ha, hc => by
    rw [clauseFrom, Bool.and_eq_true, Bool.and_eq_true, decide_eq_true_eq] at hc
    rw [sorted, insA_last x acc (fun y hy => by have := ha y hy; omega), sorted_clause xs _ (abs64 x) (fun y hy => ?_) hc.2]
    · simp
    · rcases List.mem_append.1 hy with hy | hy
      · have := ha y hy; omega
      · simp at hy; subst hy; omega

theorem clause_gt : ∀ (c : List Int) (p : Int), clauseFrom p c = true → ∀ x ∈ c, p < abs64 x
  | [], _, _, x, h => by simp at h
  | y :: c, p, hc, x, hx => by
    rw [clauseFrom, Bool.and_eq_true, Bool.and_eq_true, decide_eq_true_eq] at hc
    rcases List.mem_cons.1 hx with h | h
    · subst h; exact hc.1.2
    · have := clause_gt c _ hc.2 x h; omega
theorem clause_one : ∀ (c : List Int) (p : Int), clauseFrom p c = true → ∀ x ∈ c, ∀ y ∈ c, abs64 x = abs64 y → x = y
  | [], _, _, x, h, _, _, _ => by simp at h
  | z :: c, p, hc, x, hx, y, hy, e => by
    rw [clauseFrom, Bool.and_eq_true, Bool.and_eq_true, decide_eq_true_eq] at hc
    rcases List.mem_cons.1 hx with h1 | h1 <;> rcases List.mem_cons.1 hy with h2 | h2
    · rw [h1, h2]
    · have := clause_gt c _ hc.2 y h2; rw [h1] at e; omega
    · have := clause_gt c _ hc.2 x h1; rw [h2] at e; omega
    · exact clause_one c _ hc.2 x h1 y h2 e
theorem abs_neg {v : Int} (h1 : 1 ≤ v) (h2 : v ≤ 12) : abs64 (-v) = abs64 v := by unfold abs64; split <;> split <;> (try split) <;> (try split) <;> omega

/-- The walk of impl over the two clauses, put after each other. -/
def impB (out : List Int) (v : Int) : List Int → Option (List Int)
  | [] => some out
  | x :: xs => if x = v ∨ x = -v ∨ out.contains x = true then impB out v xs else if out.contains (-x) = true then none else impB (out ++ [x]) v xs

theorem impB_first (v : Int) (hv : 1 ≤ v) (hv2 : v ≤ 12) (b : List Int) : ∀ (a out : List Int) (p : Int), clauseFrom p a = true → (∀ y ∈ out, abs64 y ≤ p) → 0 ≤ p → -v ∉ a → impB out v (a ++ b) = impB (out ++ dropV v a) v b
  | [], out, _, _, _, _, _ => by simp [dropV]
  | x :: a, out, p, hc, ho, hp, hn => by
    rw [clauseFrom, Bool.and_eq_true, Bool.and_eq_true, decide_eq_true_eq, inB_iff] at hc
    obtain ⟨⟨⟨hx1, hx2⟩, hx3⟩, hc⟩ := hc
    have hn' : -v ∉ a := fun h => hn (by simp [h])
    have hx4 : x ≠ -v := fun h => hn (by simp [h])
    rw [List.cons_append, impB, dropV]
    by_cases h : x = v
    · rw [if_pos (Or.inl h), if_pos h, impB_first v hv hv2 b a out _ hc (fun y hy => by have := ho y hy; omega) (by omega) hn']
    · have hb := abs_bound hx1 hx2
      have hneg : abs64 (-x) = abs64 x := by unfold abs64; split <;> split <;> (try split) <;> (try split) <;> omega
      have h1 : out.contains x = false := by
        rw [Bool.eq_false_iff]; intro h; have := ho x (List.contains_iff_mem.1 h); omega
      have h2 : out.contains (-x) = false := by
        rw [Bool.eq_false_iff]; intro h; have := ho (-x) (List.contains_iff_mem.1 h); omega
      rw [if_neg (by rw [h1]; simp [h, hx4]), h2, if_neg (by simp), if_neg h, impB_first v hv hv2 b a (out ++ [x]) _ hc (fun y hy => ?_) (by omega) hn']
      · simp
      · rcases List.mem_append.1 hy with hy | hy
        · have := ho y hy; omega
        · simp at hy; subst hy; omega

theorem contains_sorted (out : List Int) (x : Int) : (sorted [] out).contains x = out.contains x := by
  rw [Bool.eq_iff_iff, List.contains_iff_mem, List.contains_iff_mem, sorted_mem]; simp

theorem impB_second (v : Int) : ∀ (b out : List Int), v ∉ b → (∀ x ∈ b, 1 ≤ abs64 x ∧ abs64 x ≤ 12) → (impB out v b).map (sorted []) = resB (sorted [] out) v b
  | [], _, _, _ => rfl
  | x :: b, out, hv, hb => by
    have hv' : v ∉ b := fun h => hv (by simp [h])
    have hxv : x ≠ v := fun h => hv (by simp [h])
    have hb' : ∀ y ∈ b, 1 ≤ abs64 y ∧ abs64 y ≤ 12 := fun y hy => hb y (by simp [hy])
    rw [impB, resB, contains_sorted, contains_sorted]
    by_cases h1 : x = -v
    · rw [if_pos (Or.inr (Or.inl h1)), if_pos h1, impB_second v b out hv' hb']
    · rw [if_neg h1]
      cases h2 : out.contains x with
      | true => rw [if_pos (by simp), if_pos rfl, impB_second v b out hv' hb']
      | false =>
        rw [if_neg (by simp [hxv, h1])]
        cases h3 : out.contains (-x) with
        | true => rfl
        | false =>
          simp only [Bool.false_eq_true, if_false]
          rw [ impB_second v b _ hv' hb', sorted_append]
          obtain ⟨hx1, hx2⟩ := hb x (by simp)
          have : sorted (sorted [] out) [x] = put x (sorted [] out) := by
            rw [sorted, sorted]
            refine insA_put _ fun y hy e => ?_
            have hy := (sorted_mem y out []).1 hy
            simp at hy
            rcases abs_eq hx1 hx2 e with rfl | rfl
            · rw [List.contains_iff_mem.2 hy] at h2; cases h2
            · rw [List.contains_iff_mem.2 hy] at h3; cases h3
          rw [this]

theorem impB_resolve {a b : List Int} {v : Int} (ha : isClause a = true) (hb : isClause b = true) (hv : 1 ≤ v) (hv2 : v ≤ 12) (hav : a.contains v = true) (hbv : b.contains (-v) = true) :
    (impB [] v (a ++ b)).map (sorted []) = resolve a b v := by
  have hva := List.contains_iff_mem.1 hav
  have hvb := List.contains_iff_mem.1 hbv
  have hn1 : -v ∉ a := fun h => by have := clause_one a 0 ha _ h _ hva (abs_neg hv hv2); omega
  have hn2 : v ∉ b := fun h => by have := clause_one b 0 hb _ hvb _ h (abs_neg hv hv2); omega
  rw [impB_first v hv hv2 b a [] 0 ha (by simp) (by omega) hn1, List.nil_append, impB_second v b _ hn2 (clause_mem b 0 hb), resolve, if_pos ⟨hav, hbv⟩,
    sorted_clause (dropV v a) [] 0 (by simp) (dropV_clause v a 0 ha), List.nil_append]

/-- What impl's function answers. -/
def resOut (a b : List Int) (v : Int) : Option (List Int) := if isClause a = true ∧ isClause b = true ∧ inB v 1 12 = true then resolve a b v else none
theorem resOut_yes {a b : List Int} {v : Int} (ha : isClause a = true) (hb : isClause b = true) (hv : inB v 1 12 = true) (hav : a.contains v = true) (hbv : b.contains (-v) = true) :
    resOut a b v = (impB [] v (a ++ b)).map (sorted []) := by
  rw [resOut, if_pos ⟨ha, hb, hv⟩, impB_resolve ha hb (inB_iff.1 hv).1 (inB_iff.1 hv).2 hav hbv]
theorem impB_len {a b out : List Int} {v : Int} (ha : isClause a = true) (hb : isClause b = true) (hv : inB v 1 12 = true) (hav : a.contains v = true) (hbv : b.contains (-v) = true) (h : impB [] v (a ++ b) = some out) :
    out.length ≤ 12 := by
  have h1 := impB_resolve ha hb (inB_iff.1 hv).1 (inB_iff.1 hv).2 hav hbv
  rw [h, Option.map_some] at h1
  have h2 := isClause_len (resolve_clause ha hb h1.symm)
  rw [sorted_len] at h2
  simpa using h2
end Go.Proofs.Ytggialagjkhdfaa
