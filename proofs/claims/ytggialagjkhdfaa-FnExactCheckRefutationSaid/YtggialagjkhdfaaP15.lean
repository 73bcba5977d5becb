/-
  Plain facts on propositional clauses.
  Conditions: none.
-/
import Derived.Test.YtggialagjkhdfaaW0
namespace Go.Proofs.Ytggialagjkhdfaa

/-- A propositional clause behind a variable p. -/
def clauseFrom (p : Int) : List Int → Bool
  | [] => true
  | l :: ls => inB (abs64 l) 1 12 && decide (p < abs64 l) && clauseFrom (abs64 l) ls
def isClause (c : List Int) : Bool := clauseFrom 0 c
/-- A clause set. -/
def isSet (set : List (List Int)) : Bool := decide (set.length ≤ 40) && set.all isClause

theorem inB_iff {x a b : Int} : inB x a b = true ↔ a ≤ x ∧ x ≤ b := by simp [inB]
theorem inB_not {x a b : Int} : inB x a b = false ↔ ¬ (a ≤ x ∧ x ≤ b) := by rw [← inB_iff]; simp
theorem abs64_i64 {x : Int} (h : I64 x) : I64 (abs64 x) := by
  unfold I64 at *; unfold abs64; split <;> (try split) <;> omega

/-- The variable ahead of place k. -/
def before (c : List Int) (k : Nat) : Int := if k = 0 then 0 else abs64 (c.getD (k - 1) 0)
theorem clause_step {c : List Int} {k : Nat} (h : k < c.length) : clauseFrom (before c k) (c.drop k) = (inB (abs64 c[k]) 1 12 && decide (before c k < abs64 c[k]) && clauseFrom (before c (k + 1)) (c.drop (k + 1))) := by
  rw [drop_cons h, clauseFrom]
  simp [before, h]


def mx (a b : Int) : Int := if a < b then b else a
/-- The greatest variable so far. -/
def mostC (n : Int) : List Int → Int
  | [] => n
  | l :: ls => mostC (mx n (abs64 l)) ls
def mostS (n : Int) : List (List Int) → Int
  | [] => n
  | c :: cs => mostS (mostC n c) cs
theorem mx_pos {a b : Int} (h : a < b) : mx a b = b := if_pos h
theorem mx_neg {a b : Int} (h : b ≤ a) : mx a b = a := if_neg (by omega)
theorem mx_i64 {a b : Int} (h1 : I64 a) (h2 : I64 b) : I64 (mx a b) := by unfold mx; split <;> assumption
theorem mx_eq {a b : Int} : (if b < a then a else b) = mx a b := by unfold mx; split <;> split <;> omega

/-- Does a clause of the set hold the variable v, positive or negated? -/
def occurs (set : List (List Int)) (v : Int) : Bool := set.any fun c => c.contains v || c.contains (-v)


theorem clause_mem : ∀ (c : List Int) (p : Int), clauseFrom p c = true → ∀ l ∈ c, 1 ≤ abs64 l ∧ abs64 l ≤ 12
  | [], _, _, l, hl => by simp at hl
  | x :: c, p, h, l, hl => by
    rw [clauseFrom, Bool.and_eq_true, Bool.and_eq_true, inB_iff] at h
    rcases List.mem_cons.1 hl with rfl | hl
    · exact h.1.1
    · exact clause_mem c _ h.2 l hl
theorem set_mem {set : List (List Int)} (h : isSet set = true) : ∀ c ∈ set, ∀ l ∈ c, 1 ≤ abs64 l ∧ abs64 l ≤ 12 := by
  unfold isSet at h
  rw [Bool.and_eq_true, List.all_eq_true] at h
  exact fun c hc l hl => clause_mem c 0 (h.2 c hc) l hl
theorem set_len {set : List (List Int)} (h : isSet set = true) : set.length ≤ 40 := by
  unfold isSet at h
  rw [Bool.and_eq_true] at h
  simpa using h.1
theorem mx_le {a b m : Int} (h1 : a ≤ m) (h2 : b ≤ m) : mx a b ≤ m := by unfold mx; split <;> assumption
theorem le_mx {a b : Int} : a ≤ mx a b ∧ b ≤ mx a b := by unfold mx; split <;> constructor <;> omega
theorem mostC_le (m : Int) : ∀ (c : List Int) (n : Int), n ≤ m → (∀ l ∈ c, abs64 l ≤ m) → mostC n c ≤ m
  | [], _, h, _ => h
  | l :: c, n, h, hc => mostC_le m c _ (mx_le h (hc l (by simp))) fun x hx => hc x (by simp [hx])
theorem le_mostC : ∀ (c : List Int) (n : Int), n ≤ mostC n c ∧ ∀ l ∈ c, abs64 l ≤ mostC n c
  | [], n => ⟨Int.le_refl _, by simp⟩
  | l :: c, n => by
    have h := le_mostC c (mx n (abs64 l))
    have h2 := @le_mx n (abs64 l)
    rw [mostC]
    refine ⟨by omega, fun x hx => ?_⟩
    rcases List.mem_cons.1 hx with rfl | hx
    · omega
    · exact h.2 x hx
theorem mostS_le (m : Int) : ∀ (set : List (List Int)) (n : Int), n ≤ m → (∀ c ∈ set, ∀ l ∈ c, abs64 l ≤ m) → mostS n set ≤ m
  | [], _, h, _ => h
  | c :: set, n, h, hc => mostS_le m set _ (mostC_le m c n h (hc c (by simp))) fun x hx => hc x (by simp [hx])
theorem le_mostS : ∀ (set : List (List Int)) (n : Int), n ≤ mostS n set ∧ ∀ c ∈ set, ∀ l ∈ c, abs64 l ≤ mostS n set
  | [], n => ⟨Int.le_refl _, by simp⟩
  | c :: set, n => by
    have h := le_mostS set (mostC n c)
    have h2 := le_mostC c n
    rw [mostS]
    refine ⟨by omega, fun x hx l hl => ?_⟩
    rcases List.mem_cons.1 hx with rfl | hx
    · have := h2.2 l hl; omega
    · exact h.2 x hx l hl
theorem set_most {set : List (List Int)} (h : isSet set = true) : 0 ≤ mostS 0 set ∧ mostS 0 set ≤ 12 :=
  ⟨(le_mostS set 0).1, mostS_le 12 set 0 (by omega) fun c hc l hl => (set_mem h c hc l hl).2⟩

/-- The color of the variable v. -/
def colorOf (set : List (List Int)) (split : Nat) (v : Int) : Int :=
  (if occurs (set.take split) v then 1 else 0) + (if occurs (set.drop split) v then 2 else 0)
def colorList (set : List (List Int)) (split : Nat) : List Int := (List.range (mostS 0 set).toNat).map fun (t : Nat) => colorOf set split ((t : Int) + 1)

/-- A color, or none. -/
def Colr (x : Int) : Prop := x = 0 ∨ x = 1 ∨ x = 2 ∨ x = 3
theorem or_colr {a b : Int} (h1 : Colr a) (h2 : Colr b) : Colr (bits BinOp.or IntKind.i64 a b) := by
  rcases h1 with rfl | rfl | rfl | rfl <;> rcases h2 with rfl | rfl | rfl | rfl <;> (unfold Colr; decide)

/-- Painting, literal by literal. -/
def paintC (col : Int) (f : Nat → Int) : List Int → Nat → Int
  | [] => f
  | l :: ls => paintC col (fun t => if t = (abs64 l - 1).toNat then bits BinOp.or IntKind.i64 (f t) col else f t) ls
def paintS (split : Nat) (f : Nat → Int) (i : Nat) : List (List Int) → Nat → Int
  | [] => f
  | c :: cs => paintS split (paintC (if i < split then 1 else 2) f c) (i + 1) cs


def orI (a b : Int) : Int := bits BinOp.or IntKind.i64 a b
theorem hits_iff {l : Int} {t : Nat} (h1 : 1 ≤ abs64 l) (h2 : abs64 l ≤ 12) : (t = (abs64 l - 1).toNat) ↔ ((t : Int) + 1 = l ∨ -((t : Int) + 1) = l) := by
  unfold abs64 at *; split at h1 <;> (try split at h1) <;> simp_all <;> omega

/-- Does a clause hold the variable v, positive or negated? -/
def holds (c : List Int) (v : Int) : Bool := c.contains v || c.contains (-v)

theorem paintC_at {col : Int} (hc : col = 1 ∨ col = 2) (t : Nat) : ∀ (c : List Int) (f : Nat → Int), Colr (f t) → (∀ l ∈ c, 1 ≤ abs64 l ∧ abs64 l ≤ 12) →
    paintC col f c t = if holds c ((t : Int) + 1) then orI (f t) col else f t
  | [], f, _, _ => by simp [paintC, holds]
  | l :: c, f, hf, h => by
    have hl := h l (by simp)
    have hi := @hits_iff l t hl.1 hl.2
    have hor : orI (orI (f t) col) col = orI (f t) col := by rcases hc with rfl | rfl <;> rcases hf with e | e | e | e <;> rw [e] <;> decide
    rw [paintC, paintC_at hc t c _ (by split; exact or_colr hf (by unfold Colr; omega); exact hf) fun x hx => h x (by simp [hx])]
    have hh : holds (l :: c) ((t : Int) + 1) = (decide (t = (abs64 l - 1).toNat) || holds c ((t : Int) + 1)) := by
      unfold holds
      rw [List.contains_cons, List.contains_cons, Bool.eq_iff_iff]
      simp only [Bool.or_eq_true, beq_iff_eq, decide_eq_true_eq, hi]
      constructor
      · rintro ((h | h) | (h | h))
        · exact Or.inl (Or.inl h)
        · exact Or.inr (Or.inl h)
        · exact Or.inl (Or.inr h)
        · exact Or.inr (Or.inr h)
      · rintro ((h | h) | (h | h))
        · exact Or.inl (Or.inl h)
        · exact Or.inr (Or.inl h)
        · exact Or.inl (Or.inr h)
        · exact Or.inr (Or.inr h)
    rw [hh]
    by_cases ht : t = (abs64 l - 1).toNat
    · rw [if_pos ht]
      simp only [ht, decide_true, Bool.true_or, if_true]
      rw [← ht]
      split
      · exact hor
      · rfl
    · rw [if_neg ht]
      simp only [ht, decide_false, Bool.false_or]

theorem paintS_at {split : Nat} (t : Nat) : ∀ (cs : List (List Int)) (f : Nat → Int) (i : Nat), Colr (f t) → (∀ c ∈ cs, ∀ l ∈ c, 1 ≤ abs64 l ∧ abs64 l ≤ 12) →
    paintS split f i cs t = orI (orI (f t) (if occurs (cs.take (split - i)) ((t : Int) + 1) then 1 else 0)) (if occurs (cs.drop (split - i)) ((t : Int) + 1) then 2 else 0)
  | [], f, i, hf, _ => by
    simp only [paintS, List.take_nil, List.drop_nil, occurs, List.any_nil]
    rcases hf with e | e | e | e <;> rw [e] <;> decide
  | c :: cs, f, i, hf, h => by
    have hc := h c (by simp)
    have hcol : (if i < split then (1 : Int) else 2) = 1 ∨ (if i < split then (1 : Int) else 2) = 2 := by split <;> simp
    have hp := paintC_at hcol t c f hf hc
    have hf' : Colr (paintC (if i < split then 1 else 2) f c t) := by
      rw [hp]; split
      · exact or_colr hf (by rcases hcol with e | e <;> rw [e] <;> unfold Colr <;> omega)
      · exact hf
    rw [paintS, paintS_at t cs _ (i + 1) hf' fun x hx => h x (by simp [hx]), hp]
    have hcons : ∀ l : List (List Int), occurs (c :: l) ((t : Int) + 1) = (holds c ((t : Int) + 1) || occurs l ((t : Int) + 1)) := fun l => by simp only [occurs, List.any_cons, holds]
    by_cases his : i < split
    · obtain ⟨m, hm⟩ : ∃ m, split - i = m + 1 := ⟨split - i - 1, by omega⟩
      rw [hm, show split - (i + 1) = m from by omega, List.take_succ_cons, List.drop_succ_cons, hcons, if_pos his]
      cases holds c ((t : Int) + 1) <;> cases occurs (cs.take m) ((t : Int) + 1) <;> cases occurs (cs.drop m) ((t : Int) + 1) <;> rcases hf with e | e | e | e <;> rw [e] <;> decide
    · rw [show split - i = 0 from by omega, show split - (i + 1) = 0 from by omega, if_neg his]
      simp only [List.take_zero, List.drop_zero, hcons, show occurs [] ((t : Int) + 1) = false from rfl]
      cases holds c ((t : Int) + 1) <;> cases occurs cs ((t : Int) + 1) <;> rcases hf with e | e | e | e <;> rw [e] <;> decide

theorem paint_colors {set : List (List Int)} (h : isSet set = true) (split : Nat) : ((List.range (mostS 0 set).toNat).map fun t => paintS split (fun _ => 0) 0 set t) = colorList set split := by
  unfold colorList
  refine List.map_congr_left fun t _ => ?_
  rw [paintS_at t set _ 0 (Or.inl rfl) (set_mem h), Nat.sub_zero]
  unfold colorOf
  cases occurs (set.take split) ((t : Int) + 1) <;> cases occurs (set.drop split) ((t : Int) + 1) <;> decide

theorem colorList_i64 (set : List (List Int)) (split : Nat) : ∀ x ∈ colorList set split, I64 x := by
  intro x hx
  unfold colorList at hx
  obtain ⟨t, _, rfl⟩ := List.mem_map.1 hx
  unfold colorOf I64
  split <;> split <;> omega
theorem colorList_len {set : List (List Int)} (h : isSet set = true) (split : Nat) : (colorList set split).length ≤ 12 := by
  unfold colorList
  have := set_most h
  simp; omega

end Go.Proofs.Ytggialagjkhdfaa
