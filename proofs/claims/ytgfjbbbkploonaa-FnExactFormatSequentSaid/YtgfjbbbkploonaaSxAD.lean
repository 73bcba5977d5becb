/-
  The walk over plain data: maps that are only read.
  Conditions: none.
-/
import Derived.Test.YtgfjbbbkploonaaSxAC
import Derived.MapKept
namespace Go.Proofs.Ytgfjbbbkploonaa
set_option linter.unusedSimpArgs false
set_option linter.unusedVariables false
open Go.RowKit
variable {P : Program}
/-- Whether two keys are one. -/
def keyEq : T → T → Option Bool
  | .int k a, .int k' b => if k = k' then some (decide (a = b)) else none
  | .str a, .str b => some (decide (a = b))
  | .bool a, .bool b => some (a == b)
  | _, _ => none
/-- The first entry of a key: its value's cells. -/
def findRow (k : T) : List (List T) → Option (Option (List T))
  | [] => some none
  | [] :: _ => none
  | (x :: vs) :: rows => match keyEq k x with
    | some true => some (some vs)
    | some false => findRow k rows
    | none => none
def keyD : TypeDesc → T → Bool
  | .int k, .int k' _ => decide (k' = k)
  | .string, .str _ => true
  | .bool, .bool _ => true
  | _, _ => false
theorem isKey_of {w : World} {A : Nat → Prop} {d : TypeDesc} {k : T} {v : Value} (h : keyD d k = true) (hv : RepV w A k v) : Go.MapKept.IsKey d v := by
  cases d <;> cases k <;> simp [keyD] at h <;> unfold RepV at hv
  · subst hv; trivial
  · rw [hv.1]; exact h
  · rw [hv.1]; trivial
theorem keyEq_run {w : World} {A : Nat → Prop} {d : TypeDesc} {k x : T} {kv xv : Value} {b : Bool} (hd : keyD d k = true) (h : keyEq k x = some b) (hk : RepV w A k kv) (hx : RepV w A x xv) : Instr.sameNow d kv xv = some b := by
  cases d <;> cases k <;> simp [keyD] at hd <;> cases x <;> simp [keyEq] at h <;> unfold RepV at hk hx
  · subst hk hx h; rfl
  · rw [hk.1, hx.1]
    obtain ⟨h1, h2⟩ := h
    subst h1 h2
    simp [Instr.sameNow]
    exact Bool.eq_iff_iff.2 (by simp)
  · rw [hk.1, hx.1]
    subst h
    simp only [Instr.sameNow, Option.some.injEq]
    rw [Bool.eq_iff_iff, Go.MapKept.bytes_beq]
    simp
theorem findRow_run {w : World} {A : Nat → Prop} {d : TypeDesc} {k : T} {kv : Value} (hd : keyD d k = true) (hk : RepV w A k kv) (ag : Bool) : ∀ (rows : List (List T)) (es : List MapEntry) (i : Nat) (r : Option (List T)), RepEnts w A ag rows es → findRow k rows = some r →
    match r with
    | none => Instr.findNow d kv es i = some none
    | some vs => ∃ j u us, Instr.findNow d kv es i = some (some (j, u)) ∧ (if ag = true then u = .agg ⟨us⟩ else us = [u]) ∧ RepAll w A vs us
  | [], es, i, r, h, hf => by
    unfold RepEnts at h
    subst h
    cases hf
    rfl
  | [] :: _, _, _, _, _, hf => by cases hf
  | (x :: vs) :: rows, es, i, r, h, hf => by
    unfold RepEnts at h
    obtain ⟨e, es', us, rfl, h1, h2, h3⟩ := h
    unfold RepAll at h2
    obtain ⟨xv, us', e1, h2, h4⟩ := h2
    cases e1
    unfold findRow at hf
    split at hf
    · rename_i hq
      cases hf
      exact ⟨i, e.val, us, by simp [Instr.findNow, keyEq_run hd hq hk h2], h1, h4⟩
    · rename_i hq
      have := findRow_run hd hk ag rows es' (i + 1) r h3 hf
      simp only [Instr.findNow, keyEq_run hd hq hk h2]
      exact this
    · cases hf
def rowV (ag : Bool) (vs : List T) : Option V := if ag = true then some (.agg (vs.map .t)) else match vs with | [t] => some (.one (.t t)) | _ => none
def mapT (P : Program) (t : TypeId) : Option (TypeDesc × TypeId) := match P.underlying t with
  | some (.map kt et) => (P.underlying kt).map fun d => (d, et)
  | _ => none
theorem mapT_eq {t : TypeId} {d : TypeDesc} {et : TypeId} (h : mapT P t = some (d, et)) : ∃ kt, P.underlying t = some (.map kt et) ∧ P.underlying kt = some d := by
  unfold mapT at h
  split at h
  · rename_i kt et' hu
    obtain ⟨d', h1, h2⟩ := Option.map_eq_some_iff.1 h
    cases h2
    exact ⟨kt, hu, h1⟩
  · cases h
theorem ts_crs {σ : St} {g : Gh} {w : World} : ∀ {ts : List T} {vs : List Value}, RepAll w (Fix σ g w) ts vs → CRs σ g w (ts.map .t) vs
  | [], vs, h => by unfold RepAll at h; exact h
  | t :: ts, vs, h => by
    unfold RepAll at h
    obtain ⟨v, vs', rfl, h1, h2⟩ := h
    exact ⟨v, vs', rfl, h1, ts_crs h2⟩
theorem sem_lookup {o : Oper} {σ : St} {mt : TypeId} {x ix : Operand} {d : TypeDesc} {et : TypeId} {ag : Bool} {rows : List (List T)} {k : T} {vs : List T} {v : V} (ho : o.op = .lookup mt x ix false)
    (ht : mapT P mt = some (d, et)) (hk : keyD d k = true) (hx : σ.get P 0 x = .one (.t (.mp ag rows))) (hi : σ.get P 0 ix = .one (.t k)) (hf : findRow k rows = some (some vs)) (hv : rowV ag vs = some v) :
    StepSem P o σ (σ.put o.dst v) :=
  StepSem.value fun n0 N g a w hR => by
    obtain ⟨kt, t1, t2⟩ := mapT_eq ht
    have h1 := hR.get P 0 x
    have h2 := hR.get P 0 ix
    rw [hx] at h1
    rw [hi] at h2
    have h1 : RepV w (Fix σ g w) (.mp ag rows) (a.eval x) := h1
    have h2 : RepV w (Fix σ g w) k (a.eval ix) := h2
    unfold RepV at h1
    obtain ⟨b, es, clk, e1, hA, hb, he⟩ := h1
    obtain ⟨j, u, us, f1, f2, f3⟩ := findRow_run hk h2 ag rows es.toList 0 (some vs) he hf
    refine ⟨u, ?_, ?_⟩
    · unfold execOp
      simp only [ho]
      simp [Instr.lookup, run_underlying t1, e1, Go.MapKept.run_getObj_map hb, Go.MapKept.run_checkKey t2 (isKey_of hk h2), Go.MapKept.run_findKey t2 f1, Result.andThen]
    · unfold rowV at hv
      by_cases hag : ag = true
      · rw [if_pos hag] at hv f2
        cases hv
        exact ⟨us, f2, ts_crs f3⟩
      · rw [if_neg hag] at hv f2
        subst f2
        rcases vs with _ | ⟨t, _ | ⟨t', vs⟩⟩
        · cases hv
        · cases hv
          unfold RepAll at f3
          obtain ⟨v', vs', e, h3, _⟩ := f3
          cases e
          exact h3
        · cases hv
theorem loc_lookup {o : Oper} {σ : St} {mt : TypeId} {x ix : Operand} {d : TypeDesc} {et : TypeId} {ag : Bool} {rows : List (List T)} {k : T} {vs : List T} {v : V} (ho : o.op = .lookup mt x ix false)
    (ht : mapT P mt = some (d, et)) (hk : keyD d k = true) (hx : σ.get P 0 x = .one (.t (.mp ag rows))) (hi : σ.get P 0 ix = .one (.t k)) (hf : findRow k rows = some (some vs)) (hv : rowV ag vs = some v) :
    LocS P o (keysOf [x, ix]) (dK o.dst ++ eK []) σ (σ.put o.dst v) := by
  rw [show σ.put o.dst v = (σ.upE []).put o.dst v from rfl]
  refine LocS.of (keysOf_ok _) fun σ1 h1 => ?_
  have e1 : σ1.get P 0 x = σ.get P 0 x := get_loc (l := [x, ix]) h1 (by simp) 0
  have e2 : σ1.get P 0 ix = σ.get P 0 ix := get_loc (l := [x, ix]) h1 (by simp) 0
  exact sem_lookup ho ht hk (by rw [e1]; exact hx) (by rw [e2]; exact hi) hf hv
/-- What is looked up. -/
def lkV (P : Program) (σ : St) (mt : TypeId) (x ix : Operand) : Option V := match σ.get P 0 x, σ.get P 0 ix, mapT P mt with
  | .one (.t (.mp ag rows)), .one (.t k), some (d, _) => if keyD d k = true then (findRow k rows).bind fun r => r.bind (rowV ag) else none
  | _, _, _ => none
theorem lkV_eq {σ : St} {mt : TypeId} {x ix : Operand} {v : V} (h : lkV P σ mt x ix = some v) : ∃ d et ag rows k vs, mapT P mt = some (d, et) ∧ keyD d k = true ∧ σ.get P 0 x = .one (.t (.mp ag rows)) ∧ σ.get P 0 ix = .one (.t k) ∧ findRow k rows = some (some vs) ∧ rowV ag vs = some v := by
  unfold lkV at h
  split at h
  · rename_i ag rows k d et h1 h2 h3
    split at h
    · rename_i hk
      obtain ⟨r, h4, h5⟩ := Option.bind_eq_some_iff.1 h
      obtain ⟨vs, rfl, h6⟩ := Option.bind_eq_some_iff.1 h5
      exact ⟨d, et, ag, rows, k, vs, h3, hk, h1, h2, h4, h6⟩
    · cases h
  · cases h
section
variable {ks : List Fr} {Q : Exit → St → Prop} {σ : St} {ops : Array Oper} {os : List Oper} {L : List (List Ky × List Ky)} {ty : TypeId} {ps : String} {af : Array Edge} {dst : Option Nat} {mt : TypeId} {x ix : Operand} {v : V}
theorem lookR (h : lkV P σ mt x ix = some v) (k : exo P ops os ks Q (σ.put dst v)) : exo P ops (⟨dst, .lookup mt x ix false, ty, ps, af, none⟩ :: os) ks Q σ := by
  obtain ⟨d, et, ag, rows, kk, vs, h1, h2, h3, h4, h5, h6⟩ := lkV_eq h
  exact exo_sem rfl rfl (sem_lookup rfl h1 h2 h3 h4 h5 h6) k
theorem dLookR (h : lkV P σ mt x ix = some v) (k : exd P ops os (L ++ [(keysOf [x, ix], dK dst ++ [])]) ks Q (σ.put dst v)) : exd P ops (⟨dst, .lookup mt x ix false, ty, ps, af, none⟩ :: os) L ks Q σ := by
  obtain ⟨d, et, ag, rows, kk, vs, h1, h2, h3, h4, h5, h6⟩ := lkV_eq h
  exact exd_of rfl rfl (loc_lookup rfl h1 h2 h3 h4 h5 h6) k
end
attribute [go_sem] lkV findRow keyEq keyD rowV mapT
end Go.Proofs.Ytgfjbbbkploonaa
