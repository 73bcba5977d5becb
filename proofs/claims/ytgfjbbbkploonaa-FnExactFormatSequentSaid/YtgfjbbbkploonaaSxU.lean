/-
  The walk over plain data: calls and append, with the places that they look at and turn.
  Conditions: none.
-/
import Derived.Test.YtgfjbbbkploonaaSxS
namespace Go.Proofs.Ytgfjbbbkploonaa
set_option linter.unusedSimpArgs false
set_option linter.unusedVariables false
open Go.RowKit
variable {P : Program}

theorem LocS.step {o : Oper} {R W : List Ky} {σ σ' : St} (h : LocS P o R W σ σ') : StepSem P o σ σ' := by
  have := h.2.2.2 σ fun k _ => sameK.refl _ _
  rwa [show ptch σ W σ' = σ' from sameK.all3 fun c i hc => by
    by_cases hk : (c, i) ∈ W
    · exact ptch_on h.1 hk
    · exact (ptch_off hc hk).trans (h.2.2.1 _ hc hk)] at this

def c0K : C → List Ky
  | .ow e _ => [(2, e)]
  | _ => []
def c0sK : List C → List Ky
  | [] => []
  | c :: cs => c0K c ++ c0sK cs
def bxK (σ : St) (b : Nat) : List Ky := (1, b) :: match σ.bx b with | some cs => c0sK cs | none => []
def bsK (σ : St) : List Nat → List Ky
  | [] => []
  | b :: bs => bxK σ b ++ bsK σ bs
def cK (σ : St) : C → List Ky
  | .bx b _ => bxK σ b
  | .fn _ caps => bsK σ caps
  | c => c0K c
def csK (σ : St) : List C → List Ky
  | [] => []
  | c :: cs => cK σ c ++ csK σ cs
/-- The places that arguments lean on. -/
def vsK (σ : St) : List V → List Ky
  | [] => []
  | v :: vs => csK σ v.cells ++ vsK σ vs
theorem c0K_ok (c : C) : okK (c0K c) = true := by cases c <;> rfl
theorem c0sK_ok : ∀ cs, okK (c0sK cs) = true
  | [] => rfl
  | c :: cs => okK_app (c0K_ok c) (c0sK_ok cs)
theorem bxK_ok (σ : St) (b : Nat) : okK (bxK σ b) = true := by
  have : okK (match σ.bx b with | some cs => c0sK cs | none => []) = true := by
    split
    · exact c0sK_ok _
    · rfl
  unfold bxK okK at *
  simpa using this
theorem bsK_ok (σ : St) : ∀ bs, okK (bsK σ bs) = true
  | [] => rfl
  | b :: bs => okK_app (bxK_ok σ b) (bsK_ok σ bs)
theorem cK_ok (σ : St) (c : C) : okK (cK σ c) = true := by
  cases c
  case bx => exact bxK_ok _ _
  case fn => exact bsK_ok _ _
  all_goals rfl
theorem csK_ok (σ : St) : ∀ cs, okK (csK σ cs) = true
  | [] => rfl
  | c :: cs => okK_app (cK_ok σ c) (csK_ok σ cs)
theorem vsK_ok (σ : St) : ∀ vs, okK (vsK σ vs) = true
  | [] => rfl
  | v :: vs => okK_app (csK_ok σ _) (vsK_ok σ vs)

section
variable {σ σ1 : St}
theorem CT0.loc {c : C} {t : T} (h : CT0 σ c t) (hk : ∀ k ∈ c0K c, sameK σ σ1 k) : CT0 σ1 c t := by
  cases c
  case ow e g =>
    cases t
    case sl => obtain ⟨d, o, h⟩ := h; exact ⟨d, o, (show σ.ev e = σ1.ev e from hk (2, e) (by simp [c0K])) ▸ h⟩
    all_goals exact h.elim
  all_goals (cases t <;> exact h)
theorem CT0s.loc : ∀ {cs : List C} {ts : List T}, CT0s σ cs ts → (∀ k ∈ c0sK cs, sameK σ σ1 k) → CT0s σ1 cs ts
  | [], _, h, _ => h
  | c :: cs, _, h, hk => by
    obtain ⟨t, ts', rfl, h1, h2⟩ := h
    exact ⟨t, ts', rfl, h1.loc fun k hh => hk k (by simp [c0sK, hh]), CT0s.loc h2 fun k hh => hk k (by simp [c0sK, hh])⟩
theorem CTb.loc {b : Nat} {t : T} (h : CTb σ b t) (hk : ∀ k ∈ bxK σ b, sameK σ σ1 k) : CTb σ1 b t := by
  obtain ⟨cs, ts, h1, h2, h3⟩ := h
  refine ⟨cs, ts, (show σ.bx b = σ1.bx b from hk (1, b) (by simp [bxK])) ▸ h1, h2, h3.loc fun k hh => hk k ?_⟩
  unfold bxK
  rw [h1]
  simp [hh]
theorem CTf.loc : ∀ {bs : List Nat} {ts : List T}, CTf σ bs ts → (∀ k ∈ bsK σ bs, sameK σ σ1 k) → CTf σ1 bs ts
  | [], _, h, _ => h
  | b :: bs, _, h, hk => by
    obtain ⟨t, ts', rfl, h1, h2⟩ := h
    exact ⟨t, ts', rfl, h1.loc fun k hh => hk k (by simp [bsK, hh]), CTf.loc h2 fun k hh => hk k (by simp [bsK, hh])⟩
theorem CT.loc {c : C} {t : T} (h : CT σ c t) (hk : ∀ k ∈ cK σ c, sameK σ σ1 k) : CT σ1 c t := by
  unfold CT at h ⊢
  split at h
  · exact h.loc hk
  · exact ⟨h.1, h.2.loc hk⟩
  · rename_i hn1 hn2
    cases c
    case bx b o =>
      cases o with
      | zero => exact (hn1 b rfl).elim
      | succ o => exact h
    case fn f caps =>
      cases t
      case fn g ts => exact (hn2 f caps g ts rfl rfl).elim
      all_goals exact h
    all_goals exact CT0.loc h hk
theorem CTs.loc : ∀ {cs : List C} {ts : List T}, CTs σ cs ts → (∀ k ∈ csK σ cs, sameK σ σ1 k) → CTs σ1 cs ts
  | [], _, h, _ => h
  | c :: cs, _, h, hk => by
    obtain ⟨t, ts', rfl, h1, h2⟩ := h
    exact ⟨t, ts', rfl, h1.loc fun k hh => hk k (by simp [csK, hh]), CTs.loc h2 fun k hh => hk k (by simp [csK, hh])⟩
theorem VDs.loc : ∀ {vs : List V} {ds : List D}, VDs σ vs ds → (∀ k ∈ vsK σ vs, sameK σ σ1 k) → VDs σ1 vs ds
  | [], _, h, _ => h
  | v :: vs, _, h, hk => by
    obtain ⟨d, ds', rfl, h1, h2⟩ := h
    refine ⟨d, ds', rfl, ?_, VDs.loc h2 fun k hh => hk k (by simp [vsK, hh])⟩
    unfold VD at h1 ⊢
    split at h1
    · exact h1.loc fun k hh => hk k (by simp [vsK, V.cells, csK, hh])
    · exact h1.loc fun k hh => hk k (by simp [vsK, V.cells, hh])
    · exact h1.elim
theorem CT1.loc {c : C} {t : T} (h : CT1 σ c t) : CT1 σ1 c t := by cases c <;> exact h
theorem CT1s.loc : ∀ {cs : List C} {ts : List T}, CT1s σ cs ts → CT1s σ1 cs ts
  | [], _, h => h
  | c :: cs, _, h => by obtain ⟨t, ts', rfl, h1, h2⟩ := h; exact ⟨t, ts', rfl, h1.loc, CT1s.loc h2⟩
theorem VD1s.loc : ∀ {vs : List V} {ds : List D}, VD1s σ vs ds → VD1s σ1 vs ds
  | [], _, h => h
  | v :: vs, _, h => by
    obtain ⟨d, ds', rfl, h1, h2⟩ := h
    refine ⟨d, ds', rfl, ?_, VD1s.loc h2⟩
    unfold VD1 at h1 ⊢
    split at h1
    · exact h1.loc
    · exact h1.loc
    · exact h1.elim
end

/- The new owned slices of a call's results. -/
def owL (d : Nat) : Nat → List T → List (Nat × Ev)
  | _, [] => []
  | j, .sl sz rows :: ts => owL d (j + 1) ts ++ [(d * 32 + j, ⟨true, sz, rows, 0, true⟩)]
  | j, _ :: ts => owL d (j + 1) ts
theorem owE_ups (d : Nat) : ∀ (ts : List T) (j : Nat) (f : Nat → Option Ev), owE d j ts f = upsE (owL d j ts) f
  | [], _, _ => rfl
  | t :: ts, j, f => by
    unfold owE
    rw [owE_ups d ts]
    cases t <;> simp only [owL, owE1, upsE_app, upsE]
theorem eK_app : ∀ (a b : List (Nat × Ev)), eK (a ++ b) = eK a ++ eK b
  | [], _ => rfl
  | (e, x) :: a, b => by simp [eK, eK_app a b]
theorem freeE_loc {σ σ1 : St} (d : Nat) : ∀ (ts : List T) (j : Nat), freeE d j ts σ.ev → (∀ k ∈ eK (owL d j ts), sameK σ σ1 k) → freeE d j ts σ1.ev
  | [], _, _, _ => trivial
  | t :: ts, j, h, hk => by
    obtain ⟨h1, h2⟩ := h
    cases t
    case sl sz rows =>
      refine ⟨?_, freeE_loc d ts (j + 1) h2 fun k hh => hk k (by simp [owL, eK_app, hh])⟩
      have : σ.ev (d * 32 + j) = σ1.ev (d * 32 + j) := hk (2, d * 32 + j) (by simp [owL, eK_app, eK])
      show σ1.ev (d * 32 + j) = none
      rw [← this]; exact h1
    all_goals exact ⟨trivial, freeE_loc d ts (j + 1) h2 fun k hh => hk k (by simpa [owL] using hh)⟩
theorem callF_eq (σ : St) (d : Nat) (res : List D) : σ.callF d res = (σ.upE (owL d 0 (resCells res))).put (some d) (tupV (resD d 0 res)) := by
  unfold St.callF St.upE St.put
  simp only [owE_ups]
theorem callR_eq (σ : St) (d : Option Nat) (res : List D) : σ.callR d res = (σ.upE []).put d (tupV (res.map D.toV)) := rfl
theorem gets_loc {σ σ1 : St} {as : Array Operand} (ts : Array TypeId) (h : ∀ k ∈ keysOf as.toList, sameK σ σ1 k) : σ1.gets P as ts = σ.gets P as ts := by
  unfold St.gets
  refine List.map_congr_left fun p hp => ?_
  obtain ⟨x, t⟩ := p
  exact get_loc h (List.of_mem_zip hp).1 t
theorem keysOf_cons_sub {x : Operand} {l : List Operand} {k : Ky} (h : k ∈ keysOf l) : k ∈ keysOf (x :: l) := by
  cases x <;> simp [keysOf, h]

section
variable {o : Oper} {σ : St} {x : Operand} {as : Array Operand} {ts : Array TypeId} {f : FuncId} {cvs : List V} {d : Nat} {ds res : List D}
theorem loc_callF (ho : o.op = .call ⟨.value x, as, ts⟩) (hd : o.dst = some d)
    (h : FC P f ds res) (hc : calleeOf (σ.get P 0 x) = some (f, cvs)) (hv : VDs σ (σ.gets P as ts ++ cvs) ds) (hf : freeE d 0 (resCells res) σ.ev) :
    LocS P o (keysOf (x :: as.toList) ++ (vsK σ (σ.gets P as ts ++ cvs) ++ eK (owL d 0 (resCells res)))) (dK (some d) ++ eK (owL d 0 (resCells res))) σ (σ.callF d res) := by
  rw [callF_eq, ← hd]
  refine LocS.of (okK_app (keysOf_ok _) (okK_app (vsK_ok _ _) (eK_ok _))) fun σ1 h1 => ?_
  rw [hd, ← callF_eq]
  have e1 : σ1.get P 0 x = σ.get P 0 x := get_loc (l := x :: as.toList) (fun k hk => h1 k (by simp [hk])) (by simp) 0
  have e2 : σ1.gets P as ts = σ.gets P as ts := gets_loc ts fun k hk => h1 k (by simp [keysOf_cons_sub hk])
  exact sem_callF ho hd h (by rw [e1]; exact hc) (by rw [e2]; exact hv.loc fun k hk => h1 k (by simp [hk])) (freeE_loc d _ 0 hf fun k hk => h1 k (by simp [hk]))
theorem loc_callR (ho : o.op = .call ⟨.value x, as, ts⟩)
    (h : RC P f ds res) (hc : calleeOf (σ.get P 0 x) = some (f, cvs)) (hv : VD1s σ (σ.gets P as ts ++ cvs) ds) : LocS P o (keysOf (x :: as.toList)) (dK o.dst ++ eK []) σ (σ.callR o.dst res) := by
  rw [callR_eq]
  refine LocS.of (keysOf_ok _) fun σ1 h1 => ?_
  rw [← callR_eq]
  have e1 : σ1.get P 0 x = σ.get P 0 x := get_loc (l := x :: as.toList) h1 (by simp) 0
  have e2 : σ1.gets P as ts = σ.gets P as ts := gets_loc ts fun k hk => h1 k (keysOf_cons_sub hk)
  exact sem_callR ho h (by rw [e1]; exact hc) (by rw [e2]; exact hv.loc)
end

def cvsOf : Option (FuncId × List V) → List V
  | some p => p.2
  | none => []
section
variable {ks : List Fr} {Q : Exit → St → Prop} {σ : St} {ops : Array Oper} {os : List Oper} {L : List (List Ky × List Ky)} {ty : TypeId} {ps : String} {af : Array Edge} {x : Operand} {as : Array Operand} {ts : Array TypeId} {f : FuncId} {ds res : List D}
theorem dCallF {d : Nat} (h : FC P f ds res) (hp : onSome (calleeOf (σ.get P 0 x)) fun p => p.1 = f ∧ VDs σ (σ.gets P as ts ++ p.2) ds ∧ freeE d 0 (resCells res) σ.ev)
    (k : exd P ops os (L ++ [(keysOf (x :: as.toList) ++ (vsK σ (σ.gets P as ts ++ cvsOf (calleeOf (σ.get P 0 x))) ++ eK (owL d 0 (resCells res))), dK (some d) ++ eK (owL d 0 (resCells res)))]) ks Q (σ.callF d res)) :
    exd P ops (⟨some d, .call ⟨.value x, as, ts⟩, ty, ps, af, none⟩ :: os) L ks Q σ := by
  obtain ⟨⟨f', cvs⟩, h1, rfl, h2, h3⟩ := onSome_ex hp
  rw [h1] at k
  exact exd_of rfl rfl (loc_callF rfl rfl h h1 h2 h3) k
theorem dCallR {d : Option Nat} (h : RC P f ds res) (hp : onSome (calleeOf (σ.get P 0 x)) fun p => p.1 = f ∧ VD1s σ (σ.gets P as ts ++ p.2) ds)
    (k : exd P ops os (L ++ [(keysOf (x :: as.toList), dK d ++ [])]) ks Q (σ.callR d res)) :
    exd P ops (⟨d, .call ⟨.value x, as, ts⟩, ty, ps, af, none⟩ :: os) L ks Q σ := by
  obtain ⟨⟨f', cvs⟩, h1, rfl, h2⟩ := onSome_ex hp
  exact exd_of rfl rfl (loc_callR rfl h h1 h2) k
end
attribute [go_sem] cvsOf
attribute [go_sem] c0K c0sK bxK bsK cK csK vsK owL eK
end Go.Proofs.Ytgfjbbbkploonaa
