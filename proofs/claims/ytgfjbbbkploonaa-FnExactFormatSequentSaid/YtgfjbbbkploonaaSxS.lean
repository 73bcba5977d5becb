/-
  The walk over plain data: a region's operations in any order: the words that the walk runs by; calls, append.
  Conditions: none.
-/
import Derived.Test.YtgfjbbbkploonaaSxR
namespace Go.Proofs.Ytgfjbbbkploonaa
set_option linter.unusedSimpArgs false
set_option linter.unusedVariables false
open Go.RowKit
variable {P : Program}

def upsE : List (Nat × Ev) → (Nat → Option Ev) → (Nat → Option Ev)
  | [], f => f
  | (e, x) :: l, f => upd (upsE l f) e (some x)
def eK : List (Nat × Ev) → List Ky
  | [] => []
  | (e, _) :: l => (2, e) :: eK l
theorem upsE_app : ∀ (a b : List (Nat × Ev)) (f : Nat → Option Ev), upsE (a ++ b) f = upsE a (upsE b f)
  | [], _, _ => rfl
  | (e, x) :: a, b, f => by simp only [List.cons_append, upsE, upsE_app a b f]
theorem eK_ok : ∀ l, okK (eK l) = true
  | [] => rfl
  | (e, x) :: l => by have := eK_ok l; unfold okK at *; simpa [eK] using this
theorem eK_mem {n e : Nat} : ∀ {l : List (Nat × Ev)}, (n, e) ∈ eK l → n = 2
  | [], h => by simp [eK] at h
  | (e', x) :: l, h => by
    simp only [eK, List.mem_cons, Prod.mk.injEq] at h
    rcases h with h | h
    · exact h.1
    · exact eK_mem h
theorem upsE_in : ∀ {l : List (Nat × Ev)} (f f' : Nat → Option Ev) {e : Nat}, (2, e) ∈ eK l → upsE l f e = upsE l f' e
  | [], f, f', e, h => by simp [eK] at h
  | (e', x) :: l, f, f', e, h => by
    unfold upsE
    by_cases he : e = e'
    · subst he; rw [upd_same, upd_same]
    · rw [upd_ne _ _ he, upd_ne _ _ he]
      simp only [eK, List.mem_cons, Prod.mk.injEq] at h
      exact upsE_in f f' (h.resolve_left fun hh => he hh.2)
theorem upsE_out : ∀ {l : List (Nat × Ev)} (f : Nat → Option Ev) {e : Nat}, (2, e) ∉ eK l → upsE l f e = f e
  | [], f, e, h => rfl
  | (e', x) :: l, f, e, h => by
    simp only [eK, List.mem_cons, Prod.mk.injEq, true_and, not_or] at h
    unfold upsE
    rw [upd_ne _ _ h.1, upsE_out f h.2]
/-- Owned slices turn, and a slot. -/
def St.upE (σ : St) (l : List (Nat × Ev)) : St := { σ with ev := upsE l σ.ev }
theorem LocS.of {o : Oper} {σ : St} {R : List Ky} {l : List (Nat × Ev)} {v : V} (hR : okK R = true) (h : ∀ σ1, (∀ k ∈ R, sameK σ σ1 k) → StepSem P o σ1 ((σ1.upE l).put o.dst v)) : LocS P o R (dK o.dst ++ eK l) σ ((σ.upE l).put o.dst v) := by
  refine ⟨okK_app (dK_ok _) (eK_ok _), hR, fun k hk3 hk => ?_, fun σ1 h1 => ?_⟩
  · simp only [List.mem_append, not_or] at hk
    refine sameK.trans ?_ (put_off hk.1)
    obtain ⟨n, i⟩ := k
    match n, hk3 with
    | 0, _ => rfl
    | 1, _ => rfl
    | 2, _ => exact (upsE_out σ.ev hk.2).symm
  · have : ptch σ1 (dK o.dst ++ eK l) ((σ.upE l).put o.dst v) = (σ1.upE l).put o.dst v := by
      refine sameK.all3 fun c i hc => ?_
      by_cases hin : (c, i) ∈ dK o.dst ++ eK l
      · refine (ptch_on (okK_app (dK_ok _) (eK_ok _)) hin).trans ?_
        match c, hc with
        | 0, _ =>
          rcases List.mem_append.1 hin with h | h
          · cases hd : o.dst with
            | none => rw [hd] at h; simp [dK] at h
            | some d =>
              rw [hd] at h
              simp only [dK, List.mem_cons, List.not_mem_nil, or_false, Prod.mk.injEq, true_and] at h
              subst h
              show upd _ _ _ _ = upd _ _ _ _
              rw [upd_same, upd_same]
          · have := eK_mem h; omega
        | 1, _ =>
          rcases List.mem_append.1 hin with h | h
          · cases hd : o.dst with
            | none => rw [hd] at h; simp [dK] at h
            | some d => rw [hd] at h; simp [dK] at h
          · have := eK_mem h; omega
        | 2, _ =>
          rcases List.mem_append.1 hin with h | h
          · cases hd : o.dst with
            | none => rw [hd] at h; simp [dK] at h
            | some d => rw [hd] at h; simp [dK] at h
          · cases o.dst <;> exact upsE_in _ _ h
      · refine (ptch_off hc hin).trans ?_
        simp only [List.mem_append, not_or] at hin
        refine sameK.trans ?_ (put_off hin.1)
        match c, hc with
        | 0, _ => rfl
        | 1, _ => rfl
        | 2, _ => exact (upsE_out σ1.ev hin.2).symm
    rw [this]
    exact h σ1 h1

/-- The walk through operations that may run in any order: in the order of the text, with the places that each looked at and turned. -/
def exd (P : Program) (ops : Array Oper) (os : List Oper) (L : List (List Ky × List Ky)) (ks : List Fr) (Q : Exit → St → Prop) (σ : St) : Prop := drwOps P ops os L σ (kont P ks Q .normal)
theorem drawn {i : Nat} {ops : Array Oper} {ks : List Fr} {Q : Exit → St → Prop} {σ : St} (hm : P.follows .mixedOrders = true) (h : exd P ops ops.toList [] ks Q σ) : ex P (.region i ops true) ks Q σ := drawn_sound hm h
theorem exd_of {ops : Array Oper} {o : Oper} {os : List Oper} {L : List (List Ky × List Ky)} {ks : List Fr} {Q : Exit → St → Prop} {σ σ' : St} {R W : List Ky} (hg : o.guard = none) (hs : semO o.op = true) (h : LocS P o R W σ σ') (k : exd P ops os (L ++ [(R, W)]) ks Q σ') : exd P ops (o :: os) L ks Q σ := by
  unfold exd drwOps drwG
  rw [hg]
  simp only
  unfold drwOp1 semS
  rw [if_pos (by rw [hs]; rfl)]
  exact ⟨R, W, σ', h, k⟩

section
variable (ks : List Fr) (Q : Exit → St → Prop) (σ : St) (ops : Array Oper) (os : List Oper) (L : List (List Ky × List Ky)) (d : Option Nat) (ty : TypeId) (ps : String) (af : Array Edge)
theorem exd_nil : exd P ops [] L ks Q σ = (ordOk ops L = true ∧ rt P .normal ks Q σ) := rfl
theorem exd_st {o : Oper} (hg : o.guard = none) (hs : semS P o σ = false) : exd P ops (o :: os) L ks Q σ = thn (st P o σ) (fun σ' => exd P ops os (L ++ [(stR P o σ, stW P o σ)]) ks Q σ') := by
  unfold exd
  rw [drwOps]
  unfold drwG
  rw [hg]
  simp only
  unfold drwOp1
  rw [if_neg (by rw [hs]; simp)]
  rfl
theorem exd_move (x : Operand) : exd P ops (⟨d, .move x, ty, ps, af, none⟩ :: os) L ks Q σ = exd P ops os (L ++ [(keysOf [x], dK d)]) ks Q (σ.put d (σ.get P ty x)) := by
  rw [exd_st _ _ _ _ _ _ rfl rfl]
  simp [st, st0, isVop, St.out, thn, stR, stW, memR, memW, opsL]
theorem exd_assign (x : Operand) : exd P ops (⟨d, .assign x, ty, ps, af, none⟩ :: os) L ks Q σ = exd P ops os (L ++ [(keysOf [x], dK d)]) ks Q (σ.put d (σ.get P ty x)) := by
  rw [exd_st _ _ _ _ _ _ rfl rfl]
  simp [st, st0, isVop, St.out, thn, stR, stW, memR, memW, opsL]
theorem exd_load (t : TypeId) (x : Operand) : exd P ops (⟨d, .load t x, ty, ps, af, none⟩ :: os) L ks Q σ = thn (st P ⟨d, .load t x, ty, ps, af, none⟩ σ) (exd P ops os (L ++ [(keysOf [x] ++ vK (σ.get P 0 x), dK d ++ [])]) ks Q) := exd_st _ _ _ _ _ _ rfl rfl
theorem exd_binOp (op : BinOp) (t t' : TypeId) (x y : Operand) : exd P ops (⟨d, .binOp op t x y t', ty, ps, af, none⟩ :: os) L ks Q σ = thn (st P ⟨d, .binOp op t x y t', ty, ps, af, none⟩ σ) (exd P ops os (L ++ [(keysOf [x, y] ++ [], dK d ++ [])]) ks Q) := exd_st _ _ _ _ _ _ rfl rfl
theorem exd_unOp (op : UnOp) (t : TypeId) (x : Operand) : exd P ops (⟨d, .unOp op t x, ty, ps, af, none⟩ :: os) L ks Q σ = thn (st P ⟨d, .unOp op t x, ty, ps, af, none⟩ σ) (exd P ops os (L ++ [(keysOf [x] ++ [], dK d ++ [])]) ks Q) := exd_st _ _ _ _ _ _ rfl rfl
theorem exd_indexAddr (t : TypeId) (x i : Operand) : exd P ops (⟨d, .indexAddr t x i, ty, ps, af, none⟩ :: os) L ks Q σ = thn (st P ⟨d, .indexAddr t x i, ty, ps, af, none⟩ σ) (exd P ops os (L ++ [(keysOf [x, i] ++ vK (σ.get P t x), dK d ++ [])]) ks Q) := exd_st _ _ _ _ _ _ rfl rfl
theorem exd_len (as : Array Operand) (ts : Array TypeId) : exd P ops (⟨d, .call ⟨.builtin .len, as, ts⟩, ty, ps, af, none⟩ :: os) L ks Q σ = thn (st P ⟨d, .call ⟨.builtin .len, as, ts⟩, ty, ps, af, none⟩ σ) (exd P ops os (L ++ [(keysOf as.toList ++ lenK (σ.get P) as.toList ts.toList, dK d ++ [])]) ks Q) := exd_st _ _ _ _ _ _ rfl rfl
theorem exd_extract (x : Operand) (i : Nat) : exd P ops (⟨d, .extract x i, ty, ps, af, none⟩ :: os) L ks Q σ = thn (st P ⟨d, .extract x i, ty, ps, af, none⟩ σ) (exd P ops os (L ++ [(keysOf [x] ++ [], dK d ++ [])]) ks Q) := exd_st _ _ _ _ _ _ rfl rfl
theorem exd_fieldAddr (t : TypeId) (x : Operand) (i : Nat) : exd P ops (⟨d, .fieldAddr t x i, ty, ps, af, none⟩ :: os) L ks Q σ = thn (st P ⟨d, .fieldAddr t x i, ty, ps, af, none⟩ σ) (exd P ops os (L ++ [(keysOf [x] ++ [], dK d ++ [])]) ks Q) := exd_st _ _ _ _ _ _ rfl rfl
theorem exd_field (t : TypeId) (x : Operand) (i : Nat) : exd P ops (⟨d, .field t x i, ty, ps, af, none⟩ :: os) L ks Q σ = thn (st P ⟨d, .field t x i, ty, ps, af, none⟩ σ) (exd P ops os (L ++ [(keysOf [x] ++ [], dK d ++ [])]) ks Q) := exd_st _ _ _ _ _ _ rfl rfl
theorem exd_index (t : TypeId) (x i : Operand) : exd P ops (⟨d, .index t x i, ty, ps, af, none⟩ :: os) L ks Q σ = thn (st P ⟨d, .index t x i, ty, ps, af, none⟩ σ) (exd P ops os (L ++ [(keysOf [x, i] ++ [], dK d ++ [])]) ks Q) := exd_st _ _ _ _ _ _ rfl rfl
theorem exd_nilCheck (x : Operand) : exd P ops (⟨d, .nilCheck x, ty, ps, af, none⟩ :: os) L ks Q σ = thn (st P ⟨d, .nilCheck x, ty, ps, af, none⟩ σ) (exd P ops os (L ++ [(keysOf [x] ++ [], dK d ++ [])]) ks Q) := exd_st _ _ _ _ _ _ rfl rfl
theorem exd_convert (s t : TypeId) (x : Operand) : exd P ops (⟨d, .convert s t x, ty, ps, af, none⟩ :: os) L ks Q σ = thn (st P ⟨d, .convert s t x, ty, ps, af, none⟩ σ) (exd P ops os (L ++ [(keysOf [x] ++ [], dK d ++ [])]) ks Q) := exd_st _ _ _ _ _ _ rfl rfl
theorem exd_alloc (t : TypeId) : exd P ops (⟨d, .alloc t, ty, ps, af, none⟩ :: os) L ks Q σ = thn (st P ⟨d, .alloc t, ty, ps, af, none⟩ σ) (exd P ops os (L ++ [(bK d, dK d ++ bK d)]) ks Q) := exd_st _ _ _ _ _ _ rfl rfl
theorem exd_box (t : TypeId) (x : Operand) : exd P ops (⟨d, .box t x, ty, ps, af, none⟩ :: os) L ks Q σ = thn (st P ⟨d, .box t x, ty, ps, af, none⟩ σ) (exd P ops os (L ++ [(keysOf [x] ++ bK d, dK d ++ bK d)]) ks Q) := exd_st _ _ _ _ _ _ rfl rfl
/-- An operation that has a step of its own here. -/
def exdS (P : Program) (ops : Array Oper) (o : Oper) (os : List Oper) (L : List (List Ky × List Ky)) (ks : List Fr) (Q : Exit → St → Prop) (σ : St) : Prop := ∃ R W σ', LocS P o R W σ σ' ∧ exd P ops os (L ++ [(R, W)]) ks Q σ'
theorem exd_store (t : TypeId) (a x : Operand) : exd P ops (⟨d, .store t a x, ty, ps, af, none⟩ :: os) L ks Q σ = storeK (σ.get P 0 a) (exdS P ops ⟨d, .store t a x, ty, ps, af, none⟩ os L ks Q σ) (thn (st P ⟨d, .store t a x, ty, ps, af, none⟩ σ) (exd P ops os (L ++ [(keysOf [a, x] ++ vK (σ.get P 0 a), dK d ++ vK (σ.get P 0 a))]) ks Q)) := by
  unfold storeK
  split
  · rename_i h
    unfold exd
    rw [drwOps]
    unfold drwG
    simp only
    unfold drwOp1
    rw [if_pos (by unfold semS semA; simp only [h, Bool.or_true])]
    rfl
  · rename_i h
    exact exd_st _ _ _ _ _ _ rfl (by unfold semS semA; simpa [semO] using h)
theorem exd_build (t : TypeId) (parts : Array (Nat × Operand)) : exd P ops (⟨d, .build t parts, ty, ps, af, none⟩ :: os) L ks Q σ = thn (st P ⟨d, .build t parts, ty, ps, af, none⟩ σ) (exd P ops os (L ++ [(keysOf (parts.toList.map (·.2)) ++ [], dK d ++ [])]) ks Q) := exd_st _ _ _ _ _ _ rfl rfl
theorem exd_makeFunc (f : Fn) (x y : Array Operand) : exd P ops (⟨d, .makeFunc f x y, ty, ps, af, none⟩ :: os) L ks Q σ = thn (st P ⟨d, .makeFunc f x y, ty, ps, af, none⟩ σ) (exd P ops os (L ++ [(keysOf y.toList ++ [], dK d ++ [])]) ks Q) := exd_st _ _ _ _ _ _ rfl rfl
theorem exd_pick (c x y : Operand) : exd P ops (⟨d, .pick c x y, ty, ps, af, none⟩ :: os) L ks Q σ = thn (st P ⟨d, .pick c x y, ty, ps, af, none⟩ σ) (exd P ops os (L ++ [(keysOf [c, x, y] ++ [], dK d ++ [])]) ks Q) := exd_st _ _ _ _ _ _ rfl rfl
/-- A guarded operation in a drawn region: gR is what the guard looks at. -/
def exdG (P : Program) (ops : Array Oper) (o : Oper) (os : List Oper) (L : List (List Ky × List Ky)) (gR : List Ky) (ks : List Fr) (Q : Exit → St → Prop) (σ : St) : Prop := drwOp1 P o σ fun R W σ' => exd P ops os (L ++ [(gR ++ R, W)]) ks Q σ'
def gdd (P : Program) (ops : Array Oper) (os : List Oper) (L : List (List Ky × List Ky)) (ks : List Fr) (Q : Exit → St → Prop) (σ : St) (o : Oper) (c : Nat) (v : V) (want : Bool) : Prop :=
  match v with
  | .one (.t (.bool b)) => (b = want → exdG P ops o os L [(0, c)] ks Q (σ.put (some c) (.one (.t (.bool want))))) ∧ (b = !want → exd P ops os (L ++ [([(0, c)], dK o.dst)]) ks Q ((σ.put (some c) (.one (.t (.bool !want)))).put o.dst (.tup [])))
  | .tup _ => exd P ops os (L ++ [([(0, c)], dK o.dst)]) ks Q (σ.put o.dst (.tup []))
  | _ => False
theorem gdd_bool (o : Oper) (c : Nat) (b want : Bool) : gdd P ops os L ks Q σ o c (.one (.t (.bool b))) want = ((b = want → exdG P ops o os L [(0, c)] ks Q (σ.put (some c) (.one (.t (.bool want))))) ∧ (b = !want → exd P ops os (L ++ [([(0, c)], dK o.dst)]) ks Q ((σ.put (some c) (.one (.t (.bool !want)))).put o.dst (.tup [])))) := rfl
theorem gdd_tup (o : Oper) (c : Nat) (xs : List (Bool × List C)) (want : Bool) : gdd P ops os L ks Q σ o c (.tup xs) want = exd P ops os (L ++ [([(0, c)], dK o.dst)]) ks Q (σ.put o.dst (.tup [])) := rfl
theorem exd_max (as : Array Operand) (ts : Array TypeId) : exd P ops (⟨d, .call ⟨.builtin .max, as, ts⟩, ty, ps, af, none⟩ :: os) L ks Q σ = thn (st P ⟨d, .call ⟨.builtin .max, as, ts⟩, ty, ps, af, none⟩ σ) (exd P ops os (L ++ [(keysOf as.toList ++ [], dK d ++ [])]) ks Q) := exd_st _ _ _ _ _ _ rfl rfl
theorem exd_min (as : Array Operand) (ts : Array TypeId) : exd P ops (⟨d, .call ⟨.builtin .min, as, ts⟩, ty, ps, af, none⟩ :: os) L ks Q σ = thn (st P ⟨d, .call ⟨.builtin .min, as, ts⟩, ty, ps, af, none⟩ σ) (exd P ops os (L ++ [(keysOf as.toList ++ [], dK d ++ [])]) ks Q) := exd_st _ _ _ _ _ _ rfl rfl
theorem exd_slice (t : TypeId) (x : Operand) (l h m : Option Operand) : exd P ops (⟨d, .slice t x l h m, ty, ps, af, none⟩ :: os) L ks Q σ = owK (σ.get P t x) (exdS P ops ⟨d, .slice t x l h m, ty, ps, af, none⟩ os L ks Q σ) (thn (st P ⟨d, .slice t x l h m, ty, ps, af, none⟩ σ) (exd P ops os (L ++ [(keysOf (x :: (l.toList ++ h.toList ++ m.toList)) ++ [], dK d ++ [])]) ks Q)) := by
  unfold owK
  split
  · rename_i h
    unfold exd
    rw [drwOps]
    unfold drwG
    simp only
    unfold drwOp1
    rw [if_pos (by unfold semS semA; simp only [h, Bool.or_true])]
    rfl
  · rename_i h
    exact exd_st _ _ _ _ _ _ rfl (by unfold semS semA; simpa [semO] using h)
theorem exdG_max (gR : List Ky) (as : Array Operand) (ts : Array TypeId) : exdG P ops ⟨d, .call ⟨.builtin .max, as, ts⟩, ty, ps, af, none⟩ os L gR ks Q σ = thn (st P ⟨d, .call ⟨.builtin .max, as, ts⟩, ty, ps, af, none⟩ σ) (exd P ops os (L ++ [(gR ++ (keysOf as.toList ++ []), dK d ++ [])]) ks Q) := by
  unfold exdG drwOp1
  rw [if_neg (by simp [semS, semA, semO])]
  rfl
theorem exdG_st {o : Oper} {gR : List Ky} (hs : semS P o σ = false) : exdG P ops o os L gR ks Q σ = thn (st P o σ) (fun σ' => exd P ops os (L ++ [(gR ++ stR P o σ, stW P o σ)]) ks Q σ') := by
  unfold exdG drwOp1
  rw [if_neg (by rw [hs]; simp)]
  rfl
theorem exdG_of {o : Oper} {gR R W : List Ky} {σ' : St} (hs : semO o.op = true) (h : LocS P o R W σ σ') (k : exd P ops os (L ++ [(gR ++ R, W)]) ks Q σ') : exdG P ops o os L gR ks Q σ := by
  unfold exdG drwOp1 semS
  rw [if_pos (by rw [hs]; rfl)]
  exact ⟨R, W, σ', h, k⟩
theorem exdG_move (gR : List Ky) (x : Operand) : exdG P ops ⟨d, .move x, ty, ps, af, none⟩ os L gR ks Q σ = exd P ops os (L ++ [(gR ++ (keysOf [x]), dK d)]) ks Q (σ.put d (σ.get P ty x)) := by
  rw [exdG_st _ _ _ _ _ _ rfl]
  simp [st, st0, isVop, St.out, thn, stR, stW, memR, memW, opsL]
theorem exdG_assign (gR : List Ky) (x : Operand) : exdG P ops ⟨d, .assign x, ty, ps, af, none⟩ os L gR ks Q σ = exd P ops os (L ++ [(gR ++ (keysOf [x]), dK d)]) ks Q (σ.put d (σ.get P ty x)) := by
  rw [exdG_st _ _ _ _ _ _ rfl]
  simp [st, st0, isVop, St.out, thn, stR, stW, memR, memW, opsL]
theorem exdG_load (gR : List Ky) (t : TypeId) (x : Operand) : exdG P ops ⟨d, .load t x, ty, ps, af, none⟩ os L gR ks Q σ = thn (st P ⟨d, .load t x, ty, ps, af, none⟩ σ) (exd P ops os (L ++ [(gR ++ (keysOf [x] ++ vK (σ.get P 0 x)), dK d ++ [])]) ks Q) := exdG_st _ _ _ _ _ _ rfl
theorem exdG_binOp (gR : List Ky) (op : BinOp) (t t' : TypeId) (x y : Operand) : exdG P ops ⟨d, .binOp op t x y t', ty, ps, af, none⟩ os L gR ks Q σ = thn (st P ⟨d, .binOp op t x y t', ty, ps, af, none⟩ σ) (exd P ops os (L ++ [(gR ++ (keysOf [x, y] ++ []), dK d ++ [])]) ks Q) := exdG_st _ _ _ _ _ _ rfl
theorem exdG_unOp (gR : List Ky) (op : UnOp) (t : TypeId) (x : Operand) : exdG P ops ⟨d, .unOp op t x, ty, ps, af, none⟩ os L gR ks Q σ = thn (st P ⟨d, .unOp op t x, ty, ps, af, none⟩ σ) (exd P ops os (L ++ [(gR ++ (keysOf [x] ++ []), dK d ++ [])]) ks Q) := exdG_st _ _ _ _ _ _ rfl
theorem exdG_indexAddr (gR : List Ky) (t : TypeId) (x i : Operand) : exdG P ops ⟨d, .indexAddr t x i, ty, ps, af, none⟩ os L gR ks Q σ = thn (st P ⟨d, .indexAddr t x i, ty, ps, af, none⟩ σ) (exd P ops os (L ++ [(gR ++ (keysOf [x, i] ++ vK (σ.get P t x)), dK d ++ [])]) ks Q) := exdG_st _ _ _ _ _ _ rfl
theorem exdG_len (gR : List Ky) (as : Array Operand) (ts : Array TypeId) : exdG P ops ⟨d, .call ⟨.builtin .len, as, ts⟩, ty, ps, af, none⟩ os L gR ks Q σ = thn (st P ⟨d, .call ⟨.builtin .len, as, ts⟩, ty, ps, af, none⟩ σ) (exd P ops os (L ++ [(gR ++ (keysOf as.toList ++ lenK (σ.get P) as.toList ts.toList), dK d ++ [])]) ks Q) := exdG_st _ _ _ _ _ _ rfl
theorem exdG_extract (gR : List Ky) (x : Operand) (i : Nat) : exdG P ops ⟨d, .extract x i, ty, ps, af, none⟩ os L gR ks Q σ = thn (st P ⟨d, .extract x i, ty, ps, af, none⟩ σ) (exd P ops os (L ++ [(gR ++ (keysOf [x] ++ []), dK d ++ [])]) ks Q) := exdG_st _ _ _ _ _ _ rfl
theorem exdG_fieldAddr (gR : List Ky) (t : TypeId) (x : Operand) (i : Nat) : exdG P ops ⟨d, .fieldAddr t x i, ty, ps, af, none⟩ os L gR ks Q σ = thn (st P ⟨d, .fieldAddr t x i, ty, ps, af, none⟩ σ) (exd P ops os (L ++ [(gR ++ (keysOf [x] ++ []), dK d ++ [])]) ks Q) := exdG_st _ _ _ _ _ _ rfl
theorem exdG_field (gR : List Ky) (t : TypeId) (x : Operand) (i : Nat) : exdG P ops ⟨d, .field t x i, ty, ps, af, none⟩ os L gR ks Q σ = thn (st P ⟨d, .field t x i, ty, ps, af, none⟩ σ) (exd P ops os (L ++ [(gR ++ (keysOf [x] ++ []), dK d ++ [])]) ks Q) := exdG_st _ _ _ _ _ _ rfl
theorem exdG_index (gR : List Ky) (t : TypeId) (x i : Operand) : exdG P ops ⟨d, .index t x i, ty, ps, af, none⟩ os L gR ks Q σ = thn (st P ⟨d, .index t x i, ty, ps, af, none⟩ σ) (exd P ops os (L ++ [(gR ++ (keysOf [x, i] ++ []), dK d ++ [])]) ks Q) := exdG_st _ _ _ _ _ _ rfl
theorem exdG_nilCheck (gR : List Ky) (x : Operand) : exdG P ops ⟨d, .nilCheck x, ty, ps, af, none⟩ os L gR ks Q σ = thn (st P ⟨d, .nilCheck x, ty, ps, af, none⟩ σ) (exd P ops os (L ++ [(gR ++ (keysOf [x] ++ []), dK d ++ [])]) ks Q) := exdG_st _ _ _ _ _ _ rfl
theorem exdG_convert (gR : List Ky) (s t : TypeId) (x : Operand) : exdG P ops ⟨d, .convert s t x, ty, ps, af, none⟩ os L gR ks Q σ = thn (st P ⟨d, .convert s t x, ty, ps, af, none⟩ σ) (exd P ops os (L ++ [(gR ++ (keysOf [x] ++ []), dK d ++ [])]) ks Q) := exdG_st _ _ _ _ _ _ rfl
theorem exdG_alloc (gR : List Ky) (t : TypeId) : exdG P ops ⟨d, .alloc t, ty, ps, af, none⟩ os L gR ks Q σ = thn (st P ⟨d, .alloc t, ty, ps, af, none⟩ σ) (exd P ops os (L ++ [(gR ++ (bK d), dK d ++ bK d)]) ks Q) := exdG_st _ _ _ _ _ _ rfl
theorem exdG_box (gR : List Ky) (t : TypeId) (x : Operand) : exdG P ops ⟨d, .box t x, ty, ps, af, none⟩ os L gR ks Q σ = thn (st P ⟨d, .box t x, ty, ps, af, none⟩ σ) (exd P ops os (L ++ [(gR ++ (keysOf [x] ++ bK d), dK d ++ bK d)]) ks Q) := exdG_st _ _ _ _ _ _ rfl
theorem exdG_build (gR : List Ky) (t : TypeId) (parts : Array (Nat × Operand)) : exdG P ops ⟨d, .build t parts, ty, ps, af, none⟩ os L gR ks Q σ = thn (st P ⟨d, .build t parts, ty, ps, af, none⟩ σ) (exd P ops os (L ++ [(gR ++ (keysOf (parts.toList.map (·.2)) ++ []), dK d ++ [])]) ks Q) := exdG_st _ _ _ _ _ _ rfl
theorem exdG_makeFunc (gR : List Ky) (f : Fn) (x y : Array Operand) : exdG P ops ⟨d, .makeFunc f x y, ty, ps, af, none⟩ os L gR ks Q σ = thn (st P ⟨d, .makeFunc f x y, ty, ps, af, none⟩ σ) (exd P ops os (L ++ [(gR ++ (keysOf y.toList ++ []), dK d ++ [])]) ks Q) := exdG_st _ _ _ _ _ _ rfl
theorem exdG_pick (gR : List Ky) (c x y : Operand) : exdG P ops ⟨d, .pick c x y, ty, ps, af, none⟩ os L gR ks Q σ = thn (st P ⟨d, .pick c x y, ty, ps, af, none⟩ σ) (exd P ops os (L ++ [(gR ++ (keysOf [c, x, y] ++ []), dK d ++ [])]) ks Q) := exdG_st _ _ _ _ _ _ rfl
theorem gdd_tt (o : Oper) (c : Nat) : gdd P ops os L ks Q σ o c (.one (.t (.bool true))) true = exdG P ops o os L [(0, c)] ks Q (σ.put (some c) (.one (.t (.bool true)))) := by
  rw [gdd_bool]; simp
theorem gdd_ff (o : Oper) (c : Nat) : gdd P ops os L ks Q σ o c (.one (.t (.bool false))) false = exdG P ops o os L [(0, c)] ks Q (σ.put (some c) (.one (.t (.bool false)))) := by
  rw [gdd_bool]; simp
theorem gdd_tf (o : Oper) (c : Nat) : gdd P ops os L ks Q σ o c (.one (.t (.bool true))) false = exd P ops os (L ++ [([(0, c)], dK o.dst)]) ks Q ((σ.put (some c) (.one (.t (.bool true)))).put o.dst (.tup [])) := by
  rw [gdd_bool]; simp
theorem gdd_ft (o : Oper) (c : Nat) : gdd P ops os L ks Q σ o c (.one (.t (.bool false))) true = exd P ops os (L ++ [([(0, c)], dK o.dst)]) ks Q ((σ.put (some c) (.one (.t (.bool false)))).put o.dst (.tup [])) := by
  rw [gdd_bool]; simp
theorem exd_guard (op : Op) (j : Nat) (want : Bool) : exd P ops (⟨d, op, ty, ps, af, some (j, want)⟩ :: os) L ks Q σ = onSome ((ops[j]?).bind (·.dst)) fun c => gdd P ops os L ks Q σ ⟨d, op, ty, ps, af, none⟩ c (σ.sl c) want := by
  unfold exd drwOps drwG
  simp only
  unfold onSome
  split
  · rename_i c hc
    simp only [hc]
    unfold gdd
    split
    · rename_i b hb; rw [hb]; rfl
    · rename_i b hb; rw [hb]; rfl
    · rename_i hb hb2
      split
      · exact absurd ‹_› (hb _)
      · exact absurd ‹_› (hb2 _)
      · rfl
  · rename_i hc; simp only [hc]
end
theorem keysOf_nil : keysOf [] = [] := rfl
theorem keysOf_tmp (t : Nat) (l : List Operand) : keysOf (.tmp t :: l) = (0, t) :: keysOf l := rfl
theorem keysOf_const (v : Value) (l : List Operand) : keysOf (.const v :: l) = keysOf l := rfl
theorem keysOf_func (f : FuncId) (l : List Operand) : keysOf (.func f :: l) = keysOf l := rfl
attribute [go_sem ↓] exd_nil exd_move exd_assign exd_load exd_binOp exd_unOp exd_indexAddr exd_len exd_extract exd_fieldAddr exd_field exd_index exd_nilCheck exd_convert exd_alloc exd_box exd_store exd_build exd_makeFunc exd_pick exd_guard exd_max exd_min exd_slice exdG_max exdG_move exdG_assign exdG_load exdG_binOp exdG_unOp exdG_indexAddr exdG_len exdG_extract exdG_fieldAddr exdG_field exdG_index exdG_nilCheck exdG_convert exdG_alloc exdG_box exdG_build exdG_makeFunc exdG_pick
attribute [go_sem] Option.toList_none Option.toList_some gdd_bool gdd_tup keysOf_nil keysOf_tmp keysOf_const keysOf_func dK bK vK lenK
theorem exd_cg {P : Program} {ops : Array Oper} {os : List Oper} {L : List (List Ky × List Ky)} {ks : List Fr} {Q : Exit → St → Prop} {σ σ' : St} (h : σ = σ') {L' : List (List Ky × List Ky)} (hL : L = L') : exd P ops os L ks Q σ = exd P ops os L' ks Q σ' := h ▸ hL ▸ rfl
theorem exdS_cg {P : Program} {ops : Array Oper} {o : Oper} {os : List Oper} {L : List (List Ky × List Ky)} {ks : List Fr} {Q : Exit → St → Prop} {σ σ' : St} (h : σ = σ') {L' : List (List Ky × List Ky)} (hL : L = L') : exdS P ops o os L ks Q σ = exdS P ops o os L' ks Q σ' := h ▸ hL ▸ rfl
theorem exdG_cg {P : Program} {ops : Array Oper} {o : Oper} {os : List Oper} {L : List (List Ky × List Ky)} {gR : List Ky} {ks : List Fr} {Q : Exit → St → Prop} {σ σ' : St} (h : σ = σ') {L' : List (List Ky × List Ky)} (hL : L = L') : exdG P ops o os L gR ks Q σ = exdG P ops o os L' gR ks Q σ' := h ▸ hL ▸ rfl
theorem gdd_cg {P : Program} {ops : Array Oper} {os : List Oper} {L : List (List Ky × List Ky)} {ks : List Fr} {Q : Exit → St → Prop} {σ : St} {o : Oper} {c : Nat} {v v' : V} {want : Bool} (h : v = v') : gdd P ops os L ks Q σ o c v want = gdd P ops os L ks Q σ o c v' want := h ▸ rfl
attribute [go_sem high] gdd_tt gdd_ff gdd_tf gdd_ft
attribute [congr] exd_cg exdS_cg exdG_cg gdd_cg
end Go.Proofs.Ytgfjbbbkploonaa
