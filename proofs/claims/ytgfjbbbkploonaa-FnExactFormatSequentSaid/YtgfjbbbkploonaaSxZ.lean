/-
  The walk over plain data: literal slices and appends with computed results.
  Conditions: none.
-/
import Derived.Test.YtgfjbbbkploonaaSxY
namespace Go.Proofs.Ytgfjbbbkploonaa
set_option linter.unusedSimpArgs false
set_option linter.unusedVariables false
open Go.RowKit
variable {P : Program}
def blD (P : Program) (σ : St) (t : TypeId) (len : Nat) (parts : Array (Nat × Operand)) : Option (Ev × List (Nat × Ev)) :=
  (litC P (σ.get P) t len parts).bind fun p => (dpRs σ p.2).map fun q => (⟨true, p.1, q.1, 0, true⟩, q.2)
def blS (P : Program) (σ : St) (t : TypeId) (len : Nat) (parts : Array (Nat × Operand)) : Option (Ev × List (Nat × Ev)) :=
  (litC P (σ.get P) t len parts).bind fun p => (shRs σ p.2).map fun q => (⟨false, p.1, q, 0, true⟩, [])
def St.bl (σ : St) (d : Nat) : Option (Ev × List (Nat × Ev)) → St
  | some (x, cons) => σ.apd (d * 32) cons x
  | none => σ
def flR : List (List T) → Bool
  | [] => true
  | r :: rs => r.all T.flat && flR rs
theorem flR_mem : ∀ {rows : List (List T)}, flR rows = true → ∀ c ∈ rows.flatten, c.flat = true
  | [], _, c, hc => by simp at hc
  | r :: rs, h, c, hc => by
    unfold flR at h
    simp only [Bool.and_eq_true, List.all_eq_true] at h
    rw [List.flatten_cons, List.mem_append] at hc
    exact hc.elim (h.1 c) (flR_mem h.2 c)
/-- What an append makes: what it asks; the owned slice that it turns, and into what; what it takes in. -/
def apV (P : Program) (σ : St) (d : Nat) (t : TypeId) (s y : Operand) (dp2 : Bool) : Option (Prop × Nat × Ev × List (Nat × Ev)) := match σ.get P t s, σ.get P t y with
  | .one (.ow e gn), .one (.ow e2 gn2) => (σ.ev e).bind fun x => (σ.ev e2).bind fun z =>
    if x.gen = gn ∧ x.on = true ∧ z.gen = gn2 ∧ z.on = true ∧ z.sz = x.sz ∧ e2 ≠ e then some ((apT P t x.sz ∧ x.rows.length + z.rows.length ≤ 4294967296), e, ⟨x.deep && z.deep, x.sz, x.rows ++ z.rows, gn + 1, true⟩, [(e2, z)])
    else none
  | .one (.ow e gn), .one (.t (.sl sz rows2)) => (σ.ev e).bind fun x =>
    if x.gen = gn ∧ x.on = true ∧ sz = x.sz then some ((apT P t x.sz ∧ x.rows.length + rows2.length ≤ 4294967296 ∧ (dp2 = true → flR rows2 = true)), e, ⟨x.deep && dp2, x.sz, x.rows ++ rows2, gn + 1, true⟩, [])
    else none
  | .one (.nl _), .one (.ow e2 gn2) => (σ.ev e2).bind fun z =>
    if z.gen = gn2 ∧ z.on = true ∧ e2 ≠ d * 32 then some ((apT P t z.sz ∧ z.rows.length ≤ 4294967296 ∧ σ.ev (d * 32) = none), d * 32, ⟨z.deep, z.sz, z.rows, 0, true⟩, [(e2, z)]) else none
  | .one (.nl _), .one (.t (.sl sz rows2)) => some ((apT P t sz ∧ rows2.length ≤ 4294967296 ∧ (dp2 = true → flR rows2 = true) ∧ σ.ev (d * 32) = none), d * 32, ⟨dp2, sz, rows2, 0, true⟩, [])
  | _, _ => none
def St.apV (σ : St) (d : Nat) : Option (Prop × Nat × Ev × List (Nat × Ev)) → St
  | some (_, e, x, cons) => (σ.apd e cons x).put (some d) (.one (.ow e x.gen))
  | none => σ
section
variable {ks : List Fr} {Q : Exit → St → Prop} {σ : St} {ops : Array Oper} {os : List Oper} {L : List (List Ky × List Ky)} {d : Nat} {t : TypeId} {ty : TypeId} {ps : String} {af : Array Edge} {len : Nat} {parts : Array (Nat × Operand)} {s y : Operand}
/-- A literal slice that owns all that is in it. -/
theorem blD_sem (h : onSome (blD P σ t len parts) fun r => σ.ev (d * 32) = none ∧ (r.2.map (·.1)).Nodup) : StepSem P ⟨some d, .buildSlice t len parts, ty, ps, af, none⟩ σ ((σ.bl d (blD P σ t len parts)).put (some d) (.one (.ow (d * 32) 0))) := by
  obtain ⟨⟨x, cons⟩, h1, h2, h3⟩ := onSome_ex h
  rw [h1]
  unfold blD at h1
  obtain ⟨p, e1, h1⟩ := Option.bind_eq_some_iff.1 h1
  obtain ⟨q, e2, h1⟩ := Option.map_eq_some_iff.1 h1
  simp only [Prod.mk.injEq] at h1
  obtain ⟨rfl, rfl⟩ := h1
  exact s_buildD ⟨e1, e2, h2, h3⟩
theorem buildDc (h : onSome (blD P σ t len parts) fun r => σ.ev (d * 32) = none ∧ (r.2.map (·.1)).Nodup) (k : exo P ops os ks Q ((σ.bl d (blD P σ t len parts)).put (some d) (.one (.ow (d * 32) 0)))) :
    exo P ops (⟨some d, .buildSlice t len parts, ty, ps, af, none⟩ :: os) ks Q σ := exo_sem rfl rfl (blD_sem h) k
theorem blS_sem (h : onSome (blS P σ t len parts) fun _ => σ.ev (d * 32) = none) : StepSem P ⟨some d, .buildSlice t len parts, ty, ps, af, none⟩ σ ((σ.bl d (blS P σ t len parts)).put (some d) (.one (.ow (d * 32) 0))) := by
  obtain ⟨⟨x, cons⟩, h1, h2⟩ := onSome_ex h
  rw [h1]
  unfold blS at h1
  obtain ⟨p, e1, h1⟩ := Option.bind_eq_some_iff.1 h1
  obtain ⟨q, e2, h1⟩ := Option.map_eq_some_iff.1 h1
  simp only [Prod.mk.injEq] at h1
  obtain ⟨rfl, rfl⟩ := h1
  exact s_buildS ⟨e1, e2, h2⟩
theorem buildSc (h : onSome (blS P σ t len parts) fun _ => σ.ev (d * 32) = none) (k : exo P ops os ks Q ((σ.bl d (blS P σ t len parts)).put (some d) (.one (.ow (d * 32) 0)))) :
    exo P ops (⟨some d, .buildSlice t len parts, ty, ps, af, none⟩ :: os) ks Q σ := exo_sem rfl rfl (blS_sem h) k
theorem apV_sem (dp2 : Bool) (h : onSome (apV P σ d t s y dp2) fun r => r.1) : StepSem P ⟨some d, .call ⟨.builtin .append, #[s, y], #[t, t]⟩, ty, ps, af, none⟩ σ (σ.apV d (apV P σ d t s y dp2)) := by
  obtain ⟨⟨p, e, x, cons⟩, h1, h2⟩ := onSome_ex h
  rw [h1]
  unfold Go.Proofs.Ytgfjbbbkploonaa.apV at h1
  split at h1
  · rename_i e0 gn e2 gn2 hs hy
    obtain ⟨x0, k1, h3⟩ := Option.bind_eq_some_iff.1 h1
    obtain ⟨z, k2, h4⟩ := Option.bind_eq_some_iff.1 h3
    clear h1 h3
    by_cases hc : x0.gen = gn ∧ x0.on = true ∧ z.gen = gn2 ∧ z.on = true ∧ z.sz = x0.sz ∧ e2 ≠ e0
    · rw [if_pos hc] at h4
      obtain ⟨rfl, c2, rfl, c4, c5, c6⟩ := hc
      simp only [Option.some.injEq, Prod.mk.injEq] at h4
      obtain ⟨rfl, rfl, rfl, rfl⟩ := h4
      obtain ⟨dp, sz, rows, gn, on⟩ := x0
      obtain ⟨dp2, sz2, rows2, gn2, on2⟩ := z
      simp only at c2 c4 c5
      subst c2 c4 c5
      exact s_apOO ⟨hs, hy, k1, k2, c6, rfl⟩ h2.1 h2.2
    · rw [if_neg hc] at h4; cases h4
  · rename_i e0 gn sz rows2 hs hy
    obtain ⟨x0, k1, h4⟩ := Option.bind_eq_some_iff.1 h1
    clear h1
    by_cases hc : x0.gen = gn ∧ x0.on = true ∧ sz = x0.sz
    · rw [if_pos hc] at h4
      obtain ⟨rfl, c2, rfl⟩ := hc
      simp only [Option.some.injEq, Prod.mk.injEq] at h4
      obtain ⟨rfl, rfl, rfl, rfl⟩ := h4
      obtain ⟨dp, sz, rows, gn, on⟩ := x0
      simp only at c2
      subst c2
      exact s_apOT dp2 ⟨hs, hy, k1⟩ (fun hd => flR_mem (h2.2.2 hd)) h2.1 h2.2.1
    · rw [if_neg hc] at h4; cases h4
  · rename_i z0 e2 gn2 hs hy
    obtain ⟨z, k2, h4⟩ := Option.bind_eq_some_iff.1 h1
    clear h1
    by_cases hc : z.gen = gn2 ∧ z.on = true ∧ e2 ≠ d * 32
    · rw [if_pos hc] at h4
      obtain ⟨rfl, c2, c3⟩ := hc
      simp only [Option.some.injEq, Prod.mk.injEq] at h4
      obtain ⟨rfl, rfl, rfl, rfl⟩ := h4
      obtain ⟨dp2, sz2, rows2, gn2, on2⟩ := z
      simp only at c2
      subst c2
      exact s_apNO ⟨hs, hy, h2.2.2, k2, c3⟩ h2.1 h2.2.1
    · rw [if_neg hc] at h4; cases h4
  · rename_i z0 sz rows2 hs hy
    simp only [Option.some.injEq, Prod.mk.injEq] at h1
    obtain ⟨rfl, rfl, rfl, rfl⟩ := h1
    exact s_apNT dp2 ⟨hs, hy, h2.2.2.2⟩ (fun hd => flR_mem (h2.2.2.1 hd)) h2.1 h2.2.1
  · cases h1
theorem apD (dp2 : Bool) (h : onSome (apV P σ d t s y dp2) fun r => r.1) (k : exo P ops os ks Q (σ.apV d (apV P σ d t s y dp2))) :
    exo P ops (⟨some d, .call ⟨.builtin .append, #[s, y], #[t, t]⟩, ty, ps, af, none⟩ :: os) ks Q σ := exo_sem rfl rfl (apV_sem dp2 h) k
end
attribute [go_sem] List.nodup_nil List.nodup_cons List.mem_cons List.not_mem_nil not_false_eq_true List.size_toArray maxI blD blS St.bl apV St.apV flR litC rowsC shRs shCs shC
end Go.Proofs.Ytgfjbbbkploonaa
