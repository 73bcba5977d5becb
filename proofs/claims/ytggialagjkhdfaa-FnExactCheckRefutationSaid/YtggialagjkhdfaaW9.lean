/-
  Contracts of functions of the program and of its laws: findFrom, indexRows, containsRows, valid1, isValidClauses.
  Conditions: those that each theorem names.
-/
import Derived.Test.YtggialagjkhdfaaW8
namespace Go.Proofs.Ytggialagjkhdfaa
open Go.RowKit

/-- A function of the program that has a body. -/
def Goes (F : FuncId) : Prop := ∀ (args : Array Value) (w : World), (callFunc F args).run Try.prog w = .ok (.enter F args) w
theorem Goes.of {F : FuncId} (fn : Func) (h1 : Try.prog.funcs[F]? = some fn) (h2 : (fn.name == "runtime.NumGoroutine") = false) (h3 : fn.body.isNone = false) : Goes F := by
  intro args w
  have e2 : ¬ fn.name = "runtime.NumGoroutine" := by simpa using h2
  have e3 : ¬ fn.body = none := by intro h; rw [h] at h3; cases h3
  simp [callFunc, h1, e2, e3]

theorem any_not_all {α : Type} (p : α → Bool) : ∀ (l : List α), (l.any fun c => !p c) = !l.all p
  | [] => rfl
  | x :: l => by rw [List.any_cons, List.all_cons, any_not_all p l, Bool.not_and]

/-- Where the first element with a property stands, from place k on; -1 if there is none. -/
def findFrom {α : Type} (p : α → Bool) (k : Int) : List α → Int
  | [] => -1
  | x :: xs => if p x then k else findFrom p (k + 1) xs
theorem findFrom_any {α : Type} (p : α → Bool) : ∀ (xs : List α) (k : Int), 0 ≤ k → (decide (0 ≤ findFrom p k xs) = xs.any p)
  | [], k, _ => by simp [findFrom]
  | x :: xs, k, hk => by
    rw [findFrom, List.any_cons]
    cases hp : p x with
    | true => simp [hk]
    | false => simp [findFrom_any p xs (k + 1) (by omega)]

set_option maxRecDepth 100000 in
set_option maxHeartbeats 400000 in
theorem indexRows_any (v : Value) (set : List (List Int)) (F : FuncId) (p : List Int → Bool) (w : World) (h1 : Rows2 w v set) (hgo : Goes F)
    (hf : ∀ (u : Value) (c : List Int) (wx : World), c ∈ set → Qt w wx → Ints wx u c → Calls Try.prog F #[u] wx fun e w' => e = .returned (.bool (p c)) ∧ Qt wx w') :
    Calls Try.prog 62 #[v, .func (.func F) #[] #[]] w fun e w' => e = .returned (.int .i64 (findFrom p 0 set)) ∧ Qt w w' := by
  obtain ⟨a1, c1, rfl, k1, m1, r1⟩ := h1.form
  clear h1
  have HF := hid hf
  clear hf
  go_enter Try.func62, Try.ntmps62
  go_wp2
  go_loopw [8] (fun i wr => ∃ k : Nat, k ≤ set.length ∧ i = .int .i64 k ∧ Hid (findFrom p 0 set = findFrom p k (set.drop k)) ∧ Qt w wr) (fun i _ => set.length - (intOf i).toNat)
  case atStart => exact ⟨0, Nat.zero_le _, rfl, rfl, Qt.refl w⟩
  case round =>
    obtain ⟨k, hk, rfl, ht, hq⟩ := hrel
    by_cases hlt : k < set.length
    · obtain ⟨b, o, u, rfl, e1, hu1⟩ := r1 k hlt
      have e1 := hq.keeps _ _ e1
      have HC := hid (HF.out u set[k] wr (List.getElem_mem _) hq (hu1.keep hq.keeps))
      have hu : Hid (findFrom p 0 set = if p set[k] then (k : Int) else findFrom p (k + 1) (set.drop (k + 1))) := by
        have := ht.out
        rw [drop_cons hlt, findFrom] at this
        exact this
      clear r1 ht hu1
      go_wp2_with fail
      rw [hgo]
      go_wp2_with fail
      refine HC.out.mono ?_
      rintro e w1 ⟨rfl, hq1⟩
      go_wp2
      · rename_i hd
        go_ret
        exact ⟨ret_int (by rw [hu.out, if_pos hd]), hq.trans hq1⟩
      · rename_i hd
        go_roundw
        case rel => exact ⟨k + 1, by omega, by go_num, hid (by rw [hu.out, if_neg (by simp [hd])]; rfl), hq.trans hq1⟩
        case measure => simp [intOf]; omega
    · go_wp2
      go_ret
      exact ⟨ret_int (by rw [ht.out, drop_end hlt]; rfl), hq⟩

set_option maxHeartbeats 400000 in
theorem containsRows_any (v : Value) (set : List (List Int)) (F : FuncId) (p : List Int → Bool) (w : World) (h1 : Rows2 w v set) (hgo : Goes F)
    (hf : ∀ (u : Value) (c : List Int) (wx : World), c ∈ set → Qt w wx → Ints wx u c → Calls Try.prog F #[u] wx fun e w' => e = .returned (.bool (p c)) ∧ Qt wx w') :
    Calls Try.prog 93 #[v, .func (.func F) #[] #[]] w fun e w' => e = .returned (.bool (set.any p)) ∧ Qt w w' := by
  have HC := hid (indexRows_any v set F p w h1 hgo hf)
  clear hf hgo h1
  go_enter Try.func93, Try.ntmps93
  go_wp2_with fail
  refine HC.out.mono ?_
  rintro e w1 ⟨rfl, hq⟩
  go_wp2
  go_ret
  exact ⟨ret_bool (findFrom_any p set 0 (by omega)), hq⟩

theorem valid1_goes : Goes 103 := .of _ Try.func103 (by kernel_rfl) rfl

set_option maxHeartbeats 400000 in
theorem valid1_any (u : Value) (c : List Int) (w : World) (h1 : Ints w u c) :
    Calls Try.prog 103 #[u] w fun e w' => e = .returned (.bool (!isClause c)) ∧ Qt w w' := by
  go_enter Try.func103, Try.ntmps103
  go_wp2_with (go_at_call 60; go_must (refine (isPropClause_any _ _ _ h1).mono ?_; rintro e w1 ⟨rfl, hq1⟩))
  go_ret
  exact ⟨rfl, hq1⟩

set_option maxHeartbeats 400000 in
theorem isValidClauses_any (v : Value) (set : List (List Int)) (w : World) (h1 : Rows2 w v set) :
    Calls Try.prog 59 #[v] w fun e w' => e = .returned (.bool (isSet set)) ∧ Qt w w' := by
  have HC := hid (containsRows_any v set _ (fun c => !isClause c) w h1 valid1_goes fun u c wx _ _ hc => valid1_any u c wx hc)
  obtain ⟨a1, c1, rfl, k1, m1, r1⟩ := h1.form
  clear h1 r1
  go_enter Try.func59, Try.ntmps59
  by_cases h40 : set.length ≤ 40
  · go_wp2_with fail
    refine HC.out.mono ?_
    rintro e w1 ⟨rfl, hq⟩
    go_wp2
    go_ret
    exact ⟨ret_bool (by unfold isSet; rw [any_not_all]; simp [h40]), hq⟩
  · go_wp2_with fail
    go_ret
    exact ⟨ret_bool (by unfold isSet; simp [h40]), Qt.refl _⟩
end Go.Proofs.Ytggialagjkhdfaa
