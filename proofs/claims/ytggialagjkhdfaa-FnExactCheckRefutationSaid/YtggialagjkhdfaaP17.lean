/-
  Plain facts on insertion by variable.
  Conditions: none.
-/
import Derived.Test.YtggialagjkhdfaaP16
namespace Go.Proofs.Ytggialagjkhdfaa

/-- x put behind all that are not greater. -/
def insA (x : Int) : List Int → List Int
  | [] => [x]
  | y :: ys => if abs64 x < abs64 y then x :: y :: ys else y :: insA x ys
def Asc (l : List Int) : Prop := l.Pairwise fun a b => abs64 a ≤ abs64 b
theorem insA_split (x : Int) : ∀ (A B : List Int), (∀ a ∈ A, abs64 a ≤ abs64 x) → (∀ b, B.head? = some b → abs64 x < abs64 b) → insA x (A ++ B) = A ++ x :: B
  | [], [], _, _ => rfl
  | [], b :: B, _, h => by rw [List.nil_append, insA, if_pos (h b rfl)]; rfl
  | a :: A, B, hA, hB => by
    rw [List.cons_append, insA, if_neg (by have := hA a (by simp); omega), insA_split x A B (fun y hy => hA y (by simp [hy])) hB]
    rfl
theorem insA_mem (x z : Int) : ∀ (l : List Int), z ∈ insA x l ↔ z = x ∨ z ∈ l
  | [] => by simp [insA]
  | y :: ys => by
    rw [insA]
    split
    · simp
    · simp only [List.mem_cons, insA_mem x z ys]
      constructor
      · rintro (h | h | h)
        · exact Or.inr (Or.inl h)
        · exact Or.inl h
        · exact Or.inr (Or.inr h)
      · rintro (h | h | h)
        · exact Or.inr (Or.inl h)
        · exact Or.inl h
        · exact Or.inr (Or.inr h)
theorem insA_asc (x : Int) : ∀ (l : List Int), Asc l → Asc (insA x l)
  | [], _ => by simp [insA, Asc]
  | y :: ys, h => by
    unfold Asc at h ⊢
    rw [List.pairwise_cons] at h
    rw [insA]
    split
    · rename_i hlt
      rw [List.pairwise_cons, List.pairwise_cons]
      refine ⟨fun b hb => ?_, h⟩
      rcases List.mem_cons.1 hb with rfl | hb
      · omega
      · have := h.1 b hb; omega
    · rename_i hge
      rw [List.pairwise_cons]
      refine ⟨fun b hb => ?_, insA_asc x ys h.2⟩
      rcases (insA_mem x b ys).1 hb with rfl | hb
      · omega
      · exact h.1 b hb
theorem insA_len (x : Int) : ∀ (l : List Int), (insA x l).length = l.length + 1
  | [] => rfl
  | y :: ys => by rw [insA]; split <;> simp [insA_len x ys]
/-- The first ones sorted. -/
def sorted : List Int → List Int → List Int
  | acc, [] => acc
  | acc, x :: xs => sorted (insA x acc) xs
theorem insA_put {x : Int} : ∀ (l : List Int), (∀ y ∈ l, abs64 y ≠ abs64 x) → insA x l = put x l
  | [], _ => rfl
  | y :: ys, h => by
    have := h y (by simp)
    rw [insA, put]
    by_cases hlt : abs64 x < abs64 y
    · rw [if_pos hlt, if_neg (by omega)]
    · rw [if_neg hlt, if_pos (by omega), insA_put ys fun z hz => h z (by simp [hz])]
theorem sorted_len : ∀ (xs acc : List Int), (sorted acc xs).length = acc.length + xs.length
  | [], acc => rfl
  | x :: xs, acc => by rw [sorted, sorted_len xs, insA_len, List.length_cons]; omega

def cmpI (a b : Int) : Int := if a < b then -1 else if b < a then 1 else 0
theorem cmpI_neg {a b : Int} : cmpI a b < 0 ↔ a < b := by unfold cmpI; split <;> (try split) <;> omega

end Go.Proofs.Ytggialagjkhdfaa
