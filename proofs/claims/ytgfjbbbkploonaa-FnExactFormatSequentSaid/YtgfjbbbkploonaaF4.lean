/-
  Contracts of functions of the program and of its laws, over plain data.
  Conditions: those that each theorem names.
-/
import Derived.Test.YtgfjbbbkploonaaF3
namespace Go.Proofs.Ytgfjbbbkploonaa
set_option linter.unusedSimpArgs false
set_option linter.unusedVariables false
open Go.RowKit
def headEq : List Fm → Bool
  | p :: _ => p.atom.name == [61]
  | [] => false
def headOk : List Fm → Bool
  | p :: _ => !(p.atom.name == [61]) || p.op == 3
  | [] => false
def signOf (o : Int) : Str := if o = 6 then [32, 124, 32] else if o = 7 then [32, 61, 62, 32] else [32, 38, 32]
def opText (o : Int) (a : Tm) (v : Str) (ps : List Fm) (rs : List Str) : Str :=
  if o = 1 then [116, 114, 117, 101] else if o = 2 then [102, 97, 108, 115, 101] else if o = 3 then a.text
  else if o = 4 then (if headEq ps = true then [126, 40] ++ rs.getD 0 [] ++ [41] else [126] ++ rs.getD 0 [])
  else if o = 8 then [97, 108, 108, 32] ++ v ++ [46] ++ rs.getD 0 []
  else if o = 9 then [115, 111, 109, 101, 32] ++ v ++ [46] ++ rs.getD 0 []
  else [40] ++ rs.getD 0 [] ++ signOf o ++ rs.getD 1 [] ++ [41]
def Fm.text : Fm → Str := Fm.fold opText
theorem Fm.text_eq (f : Fm) : f.text = opText f.op f.atom f.var f.parts (f.parts.map Fm.text) := Fm.fold_eq _ f
/-- What the text of a formula asks of it. -/
def opFine (o : Int) (a : Tm) (ps : List Fm) : Bool :=
  if o = 1 then true else if o = 2 then true else if o = 3 then a.fine
  else if o = 4 then headOk ps else if o = 8 then decide (1 ≤ ps.length) else if o = 9 then decide (1 ≤ ps.length)
  else (decide (o = 5) || decide (o = 6) || decide (o = 7)) && decide (2 ≤ ps.length)
def Fm.fine : Fm → Bool := Fm.fold fun o a _ ps rs => opFine o a ps && rs.all id
theorem Fm.fine_eq (f : Fm) : f.fine = (opFine f.op f.atom f.parts && f.parts.all Fm.fine) := by
  rw [show f.fine = (opFine f.op f.atom f.parts && (f.parts.map Fm.fine).all id) from Fm.fold_eq _ f, List.all_map]; rfl
theorem Fm.fine_part {f : Fm} (h : f.fine = true) : ∀ x ∈ f.parts, x.fine = true := by
  rw [Fm.fine_eq, Bool.and_eq_true, List.all_eq_true] at h; exact h.2
theorem Fm.fine_op {f : Fm} (h : f.fine = true) : opFine f.op f.atom f.parts = true := by
  rw [Fm.fine_eq, Bool.and_eq_true] at h; exact h.1
theorem headOk_len {ps : List Fm} (h : headOk ps = true) : 1 ≤ ps.length := by
  cases ps with
  | nil => cases h
  | cons p ps => simp
theorem getD_text (ps : List Fm) (k : Nat) (h : k < ps.length) : (ps.map Fm.text).getD k [] = ps[k].text := by simp [List.getD, h]
theorem signOf_len (o : Int) : (signOf o).length ≤ 4 := by unfold signOf; split; decide; split <;> decide
theorem one_sum {α : Type} (f : α → Nat) (xs : List α) (h : 1 ≤ xs.length) : f (xs[0]'(by omega)) ≤ (xs.map f).sum := mem_sum f xs _ (List.getElem_mem _)
theorem ftext_len : ∀ f : Fm, f.fine = true → f.text.length ≤ 8 * (f.wt + 1) := fm_ind fun o a v ps ih hf => by
  have hx := Fm.fine_part hf
  have ho : opFine o a ps = true := Fm.fine_op hf
  have hw : (Fm.mk o a v ps).wt = a.wt + v.length + ps.length + (ps.map Fm.wt).sum := (Fm.mk o a v ps).wt_eq
  have ht : (Fm.mk o a v ps).text = opText o a v ps (ps.map Fm.text) := (Fm.mk o a v ps).text_eq
  rw [ht]
  have h1 : 1 ≤ ps.length → ((ps.map Fm.text).getD 0 []).length ≤ 8 * (ps.map Fm.wt).sum + 8 := fun h => by
    rw [getD_text ps 0 h]
    have k1 := ih _ (List.getElem_mem h) (hx _ (List.getElem_mem h))
    have k2 := one_sum Fm.wt ps h
    omega
  have h2 : 2 ≤ ps.length → ((ps.map Fm.text).getD 0 []).length + ((ps.map Fm.text).getD 1 []).length ≤ 8 * (ps.map Fm.wt).sum + 16 := fun h => by
    rw [getD_text ps 0 (by omega), getD_text ps 1 (by omega)]
    have k1 := ih (ps[0]'(by omega)) (List.getElem_mem _) (hx _ (List.getElem_mem _))
    have k2 := ih (ps[1]'(by omega)) (List.getElem_mem _) (hx _ (List.getElem_mem _))
    have k3 := two_sum Fm.wt ps h
    omega
  unfold opText
  unfold opFine at ho
  split
  · simp; omega
  · split
    · simp; omega
    · split
      · rename_i n1 n2 n3
        rw [if_neg n1, if_neg n2, if_pos n3] at ho
        have := text_len a ho
        omega
      · rename_i n1 n2 n3
        rw [if_neg n1, if_neg n2, if_neg n3] at ho
        split
        · rename_i n4
          rw [if_pos n4] at ho
          have := h1 (headOk_len ho)
          have hl := headOk_len ho
          split
          · simp only [List.length_append, List.length_cons, List.length_nil]; omega
          · simp only [List.length_append, List.length_cons, List.length_nil]; omega
        · rename_i n4
          rw [if_neg n4] at ho
          split
          · rename_i n8
            rw [if_pos n8] at ho
            have hl : 1 ≤ ps.length := by simpa using ho
            have := h1 hl
            simp only [List.length_append, List.length_cons, List.length_nil]; omega
          · rename_i n8
            rw [if_neg n8] at ho
            split
            · rename_i n9
              rw [if_pos n9] at ho
              have hl : 1 ≤ ps.length := by simpa using ho
              have := h1 hl
              simp only [List.length_append, List.length_cons, List.length_nil]; omega
            · rename_i n9
              rw [if_neg n9, Bool.and_eq_true] at ho
              have hl : 2 ≤ ps.length := by simpa using ho.2
              have := h2 hl
              have hs := signOf_len o
              simp only [List.length_append, List.length_cons, List.length_nil]; omega
theorem headEq_at : ∀ (ps : List Fm) (h : 0 < ps.length), headEq ps = (ps[0].atom.name == [61])
  | [], h => by simp at h
  | p :: ps, _ => rfl
theorem headOk_at : ∀ (ps : List Fm) (h : 0 < ps.length), headOk ps = (!(ps[0].atom.name == [61]) || ps[0].op == 3)
  | [], h => by simp at h
  | p :: ps, _ => rfl
theorem parts_wt {f x : Fm} (h : x ∈ f.parts) : x.wt ≤ f.wt := by
  have := f.wt_eq
  have := mem_sum Fm.wt f.parts x h
  omega
end Go.Proofs.Ytgfjbbbkploonaa
