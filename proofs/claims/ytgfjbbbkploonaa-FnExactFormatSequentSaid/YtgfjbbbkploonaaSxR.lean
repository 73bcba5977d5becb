/-
  The walk over plain data: which places an operation looks at, and which it turns.
  Conditions: none.
-/
import Derived.Test.YtgfjbbbkploonaaSxQ
namespace Go.Proofs.Ytgfjbbbkploonaa
set_option linter.unusedSimpArgs false
set_option linter.unusedVariables false
open Go.RowKit
variable {P : Program}

def dK : Option Nat → List Ky
  | some d => [(0, d)]
  | none => []
def keysOf : List Operand → List Ky
  | [] => []
  | .tmp t :: l => (0, t) :: keysOf l
  | _ :: l => keysOf l
/-- The operands that a simple operation looks at. -/
def opsL : Op → List Operand
  | .move x | .assign x | .box _ x | .load _ x | .nilCheck x | .unOp _ _ x | .convert _ _ x | .fieldAddr _ x _ | .field _ x _ | .extract x _ => [x]
  | .pick c a b => [c, a, b]
  | .build _ ps => ps.toList.map (·.2)
  | .store _ a v | .binOp _ _ a v _ | .indexAddr _ a v | .index _ a v => [a, v]
  | .makeFunc _ _ captured => captured.toList
  | .call { args, .. } => args.toList
  | .slice _ x l h m => x :: (l.toList ++ h.toList ++ m.toList)
  | _ => []
/-- The memory behind a value. -/
def vK : V → List Ky
  | .one (.bx b _) => [(1, b)]
  | .one (.ow e _) => [(2, e)]
  | .one (.eo e _ _ _ _) => [(2, e)]
  | _ => []
def bK : Option Nat → List Ky
  | some d => [(1, d)]
  | none => []
def lenK (get : TypeId → Operand → V) : List Operand → List TypeId → List Ky
  | [x], [t] => vK (get t x)
  | _, _ => []
def memR (P : Program) (o : Oper) (σ : St) : List Ky :=
  match o.op with
  | .load _ x => vK (σ.get P 0 x)
  | .indexAddr t x _ => vK (σ.get P t x)
  | .call { callee := .builtin .len, args, argTypes } => lenK (σ.get P) args.toList argTypes.toList
  | .alloc _ => bK o.dst
  | .box _ _ => bK o.dst
  | .store _ a _ => vK (σ.get P 0 a)
  | _ => []
def memW (P : Program) (o : Oper) (σ : St) : List Ky :=
  match o.op with
  | .alloc _ => bK o.dst
  | .box _ _ => bK o.dst
  | .store _ a _ => vK (σ.get P 0 a)
  | _ => []
def stR (P : Program) (o : Oper) (σ : St) : List Ky := keysOf (opsL o.op) ++ memR P o σ
def stW (P : Program) (o : Oper) (σ : St) : List Ky := dK o.dst ++ memW P o σ

theorem keysOf_mem {x : Nat} : ∀ {l : List Operand}, Operand.tmp x ∈ l → (0, x) ∈ keysOf l
  | [], h => by simp at h
  | y :: l, h => by
    rcases List.mem_cons.1 h with h | h
    · subst h; simp [keysOf]
    · have := keysOf_mem h
      cases y <;> simp [keysOf, this]
theorem get_loc {σ σ1 : St} {l : List Operand} (h : ∀ k ∈ keysOf l, sameK σ σ1 k) {x : Operand} (hx : x ∈ l) (t : TypeId) : σ1.get P t x = σ.get P t x := by
  cases x with
  | tmp i =>
    show (if i < 1000000 then σ1.sl i else .one .any) = (if i < 1000000 then σ.sl i else .one .any)
    rw [show σ1.sl i = σ.sl i from (h (0, i) (keysOf_mem hx)).symm]
  | const v => rfl
  | global g => rfl
  | func f => rfl
theorem at_loc {σ σ1 : St} {v : V} (h : ∀ k ∈ vK v, sameK σ σ1 k) : σ1.at v = σ.at v := by
  unfold St.at
  split
  · rename_i b o; have := h (1, b) (by simp [vK]); rw [show σ1.bx b = σ.bx b from Eq.symm this]
  · rfl
  · rfl
  · rename_i e g z i o; have := h (2, e) (by simp [vK]); rw [show σ1.ev e = σ.ev e from Eq.symm this]
  · rfl
theorem put_ptch (σ σ1 : St) (d : Option Nat) (v : V) : ptch σ1 (dK d) (σ.put d v) = σ1.put d v := by
  cases d with
  | none => exact sameK.all3 fun c i hc => ptch_off hc (by simp [dK])
  | some d =>
    obtain ⟨s, b, e⟩ := σ1
    unfold ptch St.put dK
    simp only [List.mem_cons, List.not_mem_nil, or_false, Prod.mk.injEq, St.mk.injEq]
    refine ⟨funext fun i => ?_, funext fun i => ?_, funext fun i => ?_⟩
    · by_cases hi : i = d
      · subst hi; simp [upd_same]
      · simp [hi, upd_ne]
    · simp
    · simp
theorem put_off {σ : St} {d : Option Nat} {v : V} {k : Ky} (h : k ∉ dK d) : sameK σ (σ.put d v) k := by
  cases d with
  | none => exact sameK.refl _ _
  | some d =>
    obtain ⟨n, i⟩ := k
    match n with
    | 0 =>
      have hi : i ≠ d := fun hi => h (by subst hi; simp [dK])
      exact (upd_ne σ.sl v hi).symm
    | 1 => rfl
    | n + 2 => rfl
theorem dK_ok (d : Option Nat) : okK (dK d) = true := by cases d <;> rfl
theorem bK_ok (d : Option Nat) : okK (bK d) = true := by cases d <;> rfl
theorem vK_ok (v : V) : okK (vK v) = true := by unfold vK; split <;> rfl
theorem keysOf_ok : ∀ l : List Operand, okK (keysOf l) = true
  | [] => rfl
  | x :: l => by
    have := keysOf_ok l
    unfold okK at *
    cases x <;> simpa [keysOf] using this
theorem okK_app {a b : List Ky} (ha : okK a = true) (hb : okK b = true) : okK (a ++ b) = true := by
  unfold okK at *
  rw [List.all_append, ha, hb]; rfl
theorem memR_ok (o : Oper) (σ : St) : okK (memR P o σ) = true := by
  unfold memR
  split <;> first | exact vK_ok _ | exact bK_ok _ | rfl | skip
  unfold lenK
  split
  · exact vK_ok _
  · rfl
theorem memW_ok (o : Oper) (σ : St) : okK (memW P o σ) = true := by
  unfold memW
  split <;> first | exact vK_ok _ | exact bK_ok _ | rfl

/-- Only the slot turns. -/
def PutLoc (P : Program) (o : Oper) (σ σ' σ1 : St) (p : Prop) : Prop := ∃ v, σ' = σ.put o.dst v ∧ st0 P o σ1 = some (p, σ1.put o.dst v)
theorem out_loc {σ σ' : St} (σ1 : St) {d : Option Nat} {X : Option V} {p : Prop} (h : σ.out d X = some (p, σ')) : ∃ v, σ' = σ.put d v ∧ σ1.out d X = some (p, σ1.put d v) := by
  unfold St.out at *
  cases X with
  | none => cases h
  | some v => simp only [Option.map_some, Option.some.injEq, Prod.mk.injEq] at h ⊢; exact ⟨v, h.2.symm, h.1, rfl⟩
theorem outP_loc {σ σ' : St} (σ1 : St) {d : Option Nat} {X : Option (Prop × C)} {p : Prop} (h : σ.outP d X = some (p, σ')) : ∃ v, σ' = σ.put d v ∧ σ1.outP d X = some (p, σ1.put d v) := by
  unfold St.outP at *
  cases X with
  | none => cases h
  | some v => simp only [Option.map_some, Option.some.injEq, Prod.mk.injEq] at h ⊢; exact ⟨.one v.2, h.2.symm, h.1, rfl⟩
theorem some_loc {σ σ' : St} (σ1 : St) {d : Option Nat} {v0 : V} {q p : Prop} (h : some (q, σ.put d v0) = some (p, σ')) : ∃ v, σ' = σ.put d v ∧ some (q, σ1.put d v0) = some (p, σ1.put d v) := by
  simp only [Option.some.injEq, Prod.mk.injEq] at h; exact ⟨v0, h.2.symm, by rw [h.1]⟩
theorem buildC_loc {f g : TypeId → Operand → V} {t : TypeId} {pls : List (Nat × Nat)} : ∀ {parts : List (Nat × Operand)} {cs : List C}, (∀ t, ∀ x ∈ parts.map (·.2), g t x = f t x) → buildC P t pls g parts cs = buildC P t pls f parts cs
  | [], _, _ => rfl
  | (i, x) :: rest, cs, h => by
    have hx : ∀ t, g t x = f t x := fun t => h t x (by simp)
    have hr : ∀ cs, buildC P t pls g rest cs = buildC P t pls f rest cs := fun cs => buildC_loc fun t y hy => h t y (by simp at hy ⊢; exact Or.inr hy)
    unfold buildC
    split
    · rw [hx]; split
      · exact hr _
      · rfl
    · rfl
theorem boxesOf_loc {f g : Operand → V} : ∀ {l : List Operand}, (∀ x ∈ l, g x = f x) → boxesOf g l = boxesOf f l
  | [], _ => rfl
  | x :: l, h => by
    unfold boxesOf
    rw [h x (by simp), boxesOf_loc fun y hy => h y (by simp [hy])]

theorem st_put {o : Oper} {σ σ' : St} {p : Prop} (h : st0 P o σ = some (p, σ')) (σ1 : St) (h1 : ∀ k ∈ keysOf (opsL o.op), sameK σ σ1 k) (h2 : ∀ k ∈ memR P o σ, sameK σ σ1 k) :
    PutLoc P o σ σ' σ1 p ∨ (∃ t, o.op = .alloc t) ∨ (∃ t x, o.op = .box t x) ∨ ∃ t x y, o.op = .store t x y := by
  have hg : ∀ x ∈ opsL o.op, ∀ t, σ1.get P t x = σ.get P t x := fun x hx t => get_loc h1 hx t
  unfold PutLoc
  unfold st0 at h ⊢
  unfold memR at h2
  split at h
  all_goals rename_i ho
  all_goals try rw [ho] at hg
  all_goals try simp only [opsL] at hg
  · left; (try simp only [ho]); rw [hg _ (by simp)]; exact out_loc σ1 h
  · left; (try simp only [ho]); rw [hg _ (by simp)]; exact out_loc σ1 h
  · left; (try simp only [ho]); rw [hg _ (by simp), hg _ (by simp), hg _ (by simp)]
    split at h
    · rename_i hc; (try rw [hc]); exact out_loc σ1 h
    · cases h
  · left; (try simp only [ho] at h2 ⊢); rw [hg _ (by simp), at_loc h2]; exact out_loc σ1 h
  · left; (try simp only [ho]); rw [hg _ (by simp), hg _ (by simp)]; exact outP_loc σ1 h
  · left; (try simp only [ho]); rw [hg _ (by simp)]; exact out_loc σ1 h
  · left; (try simp only [ho]); rw [hg _ (by simp)]
    split at h
    · rename_i hc; (try rw [hc]); exact out_loc σ1 h
    · cases h
  · left; (try simp only [ho]); rw [hg _ (by simp)]
    obtain ⟨y, e1, h⟩ := Option.bind_eq_some_iff.1 h
    obtain ⟨q, ft⟩ := y
    obtain ⟨m, e2, h⟩ := Option.bind_eq_some_iff.1 h
    rw [e1]
    simp only [Option.bind_some]
    rw [e2]
    simp only [Option.bind_some]
    split at h
    · cases h
    · rw [if_neg ‹_›]
      split at h
      all_goals first
        | (rename_i hc; (try rw [hc]); exact out_loc σ1 h)
        | cases h
  · left; (try simp only [ho]); rw [hg _ (by simp)]
    obtain ⟨y, e1, h⟩ := Option.bind_eq_some_iff.1 h
    obtain ⟨q, ft⟩ := y
    rw [e1]
    simp only [Option.bind_some]
    simp only at h
    split at h
    · rename_i hc; (try rw [hc]); exact out_loc σ1 h
    · cases h
  · left; (try simp only [ho] at h2 ⊢); rw [hg _ (by simp), hg _ (by simp)]
    obtain ⟨m, e1, h⟩ := Option.bind_eq_some_iff.1 h
    rw [e1]
    simp only [Option.bind_some]
    split at h
    · rename_i hc hc'; (try rw [hc, hc']); exact some_loc σ1 h
    · rename_i e g kk k hc hc'
      (try rw [hc, hc'])
      have he : σ1.ev e = σ.ev e := Eq.symm (h2 (2, e) (by rw [hc]; simp [vK]))
      (try simp only)
      (try rw [he])
      obtain ⟨x, e2, h⟩ := Option.bind_eq_some_iff.1 h
      rw [e2]
      simp only [Option.bind_some]
      split at h
      · (try rw [if_pos ‹_›]); exact some_loc σ1 h
      · cases h
    · cases h
  · left; (try simp only [ho]); rw [hg _ (by simp), hg _ (by simp)]
    split at h
    · rename_i hc hc'; (try rw [hc, hc'])
      (try simp only)
      split at h
      · (try rw [if_pos ‹_›]); exact some_loc σ1 h
      · cases h
    · cases h
  · left; (try simp only [ho]); rw [hg _ (by simp)]
    split at h
    all_goals first
      | (rename_i hc; (try rw [hc]); exact out_loc σ1 h)
      | cases h
  · left; (try simp only [ho]); rw [hg _ (by simp)]
    split at h
    · rename_i e1 e2 hc; (try rw [e1, e2, hc]); exact out_loc σ1 h
    · cases h
  · left; (try simp only [ho] at h2 ⊢)
    split at h
    · rename_i e1 e2
      (try rw [e1] at h2)
      (try rw [e2] at h2)
      rw [e1] at hg
      rw [hg _ (by simp)]
      split at h
      · rename_i hc; (try rw [hc]); (try simp only)
        split at h
        · (try rw [if_pos ‹_›]); exact out_loc σ1 h
        · cases h
      · rename_i hc; (try rw [hc]); (try simp only)
        split at h
        · (try rw [if_pos ‹_›]); exact out_loc σ1 h
        · cases h
      · rename_i hc; (try rw [hc]); (try simp only)
        split at h
        · (try rw [if_pos ‹_›]); exact out_loc σ1 h
        · cases h
      · rename_i e g hc
        have he : σ1.ev e = σ.ev e := Eq.symm (h2 (2, e) (by show _ ∈ vK _; rw [hc]; simp [vK]))
        (try rw [hc]); (try simp only)
        split at h
        · (try rw [if_pos ‹_›]); rw [he]
          obtain ⟨x, e3, h⟩ := Option.bind_eq_some_iff.1 h
          rw [e3]
          simp only [Option.bind_some]
          split at h
          · (try rw [if_pos ‹_›]); exact out_loc σ1 h
          · cases h
        · cases h
      · cases h
    · cases h
  · right; left; exact ⟨_, ho⟩
  · right; right; left; exact ⟨_, _, ho⟩
  · right; right; right; exact ⟨_, _, _, ho⟩
  · left; (try simp only [ho])
    obtain ⟨pls, e1, h⟩ := Option.bind_eq_some_iff.1 h
    rw [e1]
    simp only [Option.bind_some]
    rw [show (fun z => Option.map V.agg (buildC P _ pls (σ1.get P) _ z)) = fun z => Option.map V.agg (buildC P _ pls (σ.get P) _ z) from funext fun z => by rw [buildC_loc fun t x hx => hg x hx t]]
    exact out_loc σ1 h
  · left; (try simp only [ho])
    split at h
    · rw [if_pos ‹_›, boxesOf_loc fun x hx => hg x hx 0]
      obtain ⟨bs, e1, h⟩ := Option.bind_eq_some_iff.1 h
      rw [e1]
      exact out_loc σ1 h
    · cases h
  · cases h

theorem ptch_bx {σ σ1 : St} {d b : Nat} {v : V} {cs : Option (List C)} : ptch σ1 [(0, d), (1, b)] { sl := upd σ.sl d v, bx := upd σ.bx b cs, ev := σ.ev } = { sl := upd σ1.sl d v, bx := upd σ1.bx b cs, ev := σ1.ev } := by
  obtain ⟨s, bb, e⟩ := σ1
  unfold ptch
  simp only [List.mem_cons, List.not_mem_nil, or_false, Prod.mk.injEq, St.mk.injEq]
  refine ⟨funext fun i => ?_, funext fun i => ?_, funext fun i => ?_⟩
  · by_cases hi : i = d
    · subst hi; simp [upd_same]
    · simp [hi, upd_ne]
  · by_cases hi : i = b
    · subst hi; simp [upd_same]
    · simp [hi, upd_ne]
  · simp
theorem ptch_b {σ σ1 : St} {b : Nat} {cs : Option (List C)} : ptch σ1 [(1, b)] { sl := σ.sl, bx := upd σ.bx b cs, ev := σ.ev } = { sl := σ1.sl, bx := upd σ1.bx b cs, ev := σ1.ev } := by
  obtain ⟨s, bb, e⟩ := σ1
  unfold ptch
  simp only [List.mem_cons, List.not_mem_nil, or_false, Prod.mk.injEq, St.mk.injEq]
  refine ⟨funext fun i => ?_, funext fun i => ?_, funext fun i => ?_⟩
  · simp
  · by_cases hi : i = b
    · subst hi; simp [upd_same]
    · simp [hi, upd_ne]
  · simp
theorem sameK_bx {σ : St} {d b : Nat} {v : V} {cs : Option (List C)} {k : Ky} (h : k ∉ [(0, d), (1, b)]) : sameK σ { sl := upd σ.sl d v, bx := upd σ.bx b cs, ev := σ.ev } k := by
  obtain ⟨n, i⟩ := k
  match n with
  | 0 => exact (upd_ne σ.sl v (fun hi => h (by subst hi; simp))).symm
  | 1 => exact (upd_ne σ.bx cs (fun hi => h (by subst hi; simp))).symm
  | n + 2 => rfl
theorem sameK_b {σ : St} {b : Nat} {cs : Option (List C)} {k : Ky} (h : k ∉ [(1, b)]) : sameK σ { sl := σ.sl, bx := upd σ.bx b cs, ev := σ.ev } k := by
  obtain ⟨n, i⟩ := k
  match n with
  | 0 => rfl
  | 1 => exact (upd_ne σ.bx cs (fun hi => h (by subst hi; simp))).symm
  | n + 2 => rfl

/-- A simple operation looks at its places and turns its places. -/
theorem st0_loc {o : Oper} {σ σ' : St} {p : Prop} (h : st0 P o σ = some (p, σ')) (hp : p) : LocS P o (stR P o σ) (stW P o σ) σ σ' := by
  refine ⟨okK_app (dK_ok _) (memW_ok _ _), okK_app (keysOf_ok _) (memR_ok _ _), ?_⟩
  suffices hs : (∀ k : Ky, k.1 < 3 → k ∉ stW P o σ → sameK σ σ' k) ∧ ∀ σ1, (∀ k ∈ stR P o σ, sameK σ σ1 k) → st0 P o σ1 = some (p, ptch σ1 (stW P o σ) σ') from
    ⟨hs.1, fun σ1 h1 => st0_sound (hs.2 σ1 h1) hp⟩
  have hput := fun σ1 h1 h2 => st_put h σ1 h1 h2
  by_cases hx : (∃ t, o.op = .alloc t) ∨ (∃ t x, o.op = .box t x) ∨ ∃ t x y, o.op = .store t x y
  · clear hput
    rcases hx with ⟨t, ho⟩ | ⟨t, x, ho⟩ | ⟨t, x, y, ho⟩
    · unfold st0 at h ⊢
      unfold stR stW memR memW opsL
      simp only [ho] at h ⊢
      cases hd : o.dst with
      | none => rw [hd] at h; cases h
      | some d =>
        rw [hd] at h
        simp only at h ⊢
        split at h
        · obtain ⟨z, hz, h⟩ := Option.bind_eq_some_iff.1 h
          simp only [Option.some.injEq, Prod.mk.injEq] at h
          obtain ⟨rfl, rfl⟩ := h
          refine ⟨fun k _ hk => sameK_bx hk, fun σ1 h1 => ?_⟩
          have hb : σ.bx d = σ1.bx d := h1 (1, d) (by simp [bK])
          rw [← hb, if_pos ‹_›, hz]
          simp only [Option.bind_some, Option.some.injEq, Prod.mk.injEq, true_and]
          exact ptch_bx.symm
        · cases h
    · unfold st0 at h ⊢
      unfold stR stW memR memW opsL
      simp only [ho] at h ⊢
      cases hd : o.dst with
      | none => rw [hd] at h; cases h
      | some d =>
        rw [hd] at h
        simp only at h ⊢
        split at h
        · simp only [Option.some.injEq, Prod.mk.injEq] at h
          obtain ⟨rfl, rfl⟩ := h
          refine ⟨fun k _ hk => sameK_bx hk, fun σ1 h1 => ?_⟩
          have hb : σ.bx d = σ1.bx d := h1 (1, d) (by simp [bK])
          have hg : σ1.get P t x = σ.get P t x := get_loc (l := [x]) (fun k hk => h1 k (by simp [hk])) (by simp) t
          rw [← hb, hg, if_pos ‹_›]
          simp only [Option.some.injEq, Prod.mk.injEq, true_and]
          exact ptch_bx.symm
        · cases h
    · unfold st0 at h ⊢
      unfold stR stW memR memW opsL
      simp only [ho] at h ⊢
      split at h
      · rename_i b q n hx hn
        obtain ⟨cs, hcs, h⟩ := Option.bind_eq_some_iff.1 h
        split at h
        · simp only [Option.some.injEq, Prod.mk.injEq] at h
          obtain ⟨rfl, rfl⟩ := h
          rw [hx]
          simp only [vK]
          have fin : ∀ σ1 : St, (∀ k ∈ keysOf [x, y] ++ [(1, b)], sameK σ σ1 k) → σ1.get P 0 x = .one (.bx b q) ∧ σ1.get P t y = σ.get P t y ∧ σ1.bx b = some cs := fun σ1 h1 => by
            have hg : σ1.get P 0 x = σ.get P 0 x := get_loc (l := [x, y]) (fun k hk => h1 k (by simp [hk])) (by simp) 0
            have hg' : σ1.get P t y = σ.get P t y := get_loc (l := [x, y]) (fun k hk => h1 k (by simp [hk])) (by simp) t
            have hb : σ.bx b = σ1.bx b := h1 (1, b) (by simp)
            exact ⟨hg.trans hx, hg', hb.symm.trans hcs⟩
          cases hd : o.dst with
          | none =>
            refine ⟨fun k _ hk => sameK_b hk, fun σ1 h1 => ?_⟩
            obtain ⟨k1, k2, k3⟩ := fin σ1 h1
            rw [k1, k2]
            simp only [hn, k3, Option.bind_some]
            rw [if_pos ‹_›]
            simp only [Option.some.injEq, Prod.mk.injEq, true_and]
            exact ptch_b.symm
          | some d =>
            refine ⟨fun k _ hk => sameK_bx hk, fun σ1 h1 => ?_⟩
            obtain ⟨k1, k2, k3⟩ := fin σ1 h1
            rw [k1, k2]
            simp only [hn, k3, Option.bind_some]
            rw [if_pos ‹_›]
            simp only [Option.some.injEq, Prod.mk.injEq, true_and]
            exact (ptch_bx (σ := σ) (σ1 := σ1) (d := d) (b := b) (v := .one .any)).symm
        · cases h
      · cases h
  · have hW : stW P o σ = dK o.dst := by
      unfold stW memW
      split
      · exact absurd (Or.inl ⟨_, ‹_›⟩) hx
      · exact absurd (Or.inr (Or.inl ⟨_, _, ‹_›⟩)) hx
      · exact absurd (Or.inr (Or.inr ⟨_, _, _, ‹_›⟩)) hx
      · simp
    have key : ∀ σ1, (∀ k ∈ stR P o σ, sameK σ σ1 k) → PutLoc P o σ σ' σ1 p := fun σ1 h1 => by
      rcases hput σ1 (fun k hk => h1 k (by unfold stR; simp [hk])) (fun k hk => h1 k (by unfold stR; simp [hk])) with hh | hh
      · exact hh
      · exact absurd hh hx
    rw [hW]
    refine ⟨fun k _ hk => ?_, fun σ1 h1 => ?_⟩
    · obtain ⟨v, rfl, _⟩ := key σ fun k _ => sameK.refl _ _
      exact put_off hk
    · obtain ⟨v, e1, e2⟩ := key σ1 h1
      rw [e1, put_ptch]; exact e2

theorem bndV_loc {f g : TypeId → Operand → V} {d : Int} {x : Option Operand} (h : ∀ y ∈ x.toList, ∀ t, g t y = f t y) : bndV g d x = bndV f d x := by
  cases x with
  | none => rfl
  | some y => unfold bndV; simp only; rw [h y (by simp) 0]
theorem vop_loc {f g : TypeId → Operand → V} {op : Op} (h : ∀ y ∈ opsL op, ∀ t, g t y = f t y) : vop P g op = vop P f op := by
  unfold vop
  split
  · split
    · rename_i hl; rw [h _ (by simp [opsL, hl]) 0, h _ (by simp [opsL, hl]) 0]
    · rfl
  · split
    · rename_i hl; rw [h _ (by simp [opsL, hl]) 0, h _ (by simp [opsL, hl]) 0]
    · rfl
  · rename_i t x low high
    rw [h x (by simp [opsL]) t]
    unfold sliceV
    have hl : ∀ d, bndV g d low = bndV f d low := fun d => bndV_loc fun y hy t => h y (by simp only [opsL]; simp [hy]) t
    have hh : ∀ d, bndV g d high = bndV f d high := fun d => bndV_loc fun y hy t => h y (by simp only [opsL]; simp [hy]) t
    simp only [hl, hh]
  · rfl
theorem vop_memW {o : Oper} (σ : St) (h : isVop o.op = true) : memW P o σ = [] := by
  unfold memW
  split
  · rename_i ho; rw [ho] at h; cases h
  · rename_i ho; rw [ho] at h; cases h
  · rename_i ho; rw [ho] at h; cases h
  · rfl
theorem st_loc {o : Oper} {σ σ' : St} {p : Prop} (h : st P o σ = some (p, σ')) (hp : p) : LocS P o (stR P o σ) (stW P o σ) σ σ' := by
  by_cases hv : isVop o.op = true
  · unfold st at h
    rw [if_pos hv] at h
    unfold St.outV at h
    obtain ⟨x, hx, h⟩ := Option.map_eq_some_iff.1 h
    simp only [Prod.mk.injEq] at h
    obtain ⟨rfl, rfl⟩ := h
    have hW : stW P o σ = dK o.dst := by unfold stW; rw [vop_memW σ hv]; simp
    refine ⟨okK_app (dK_ok _) (memW_ok _ _), okK_app (keysOf_ok _) (memR_ok _ _), fun k _ hk => ?_, fun σ1 h1 => ?_⟩
    · rw [hW] at hk; exact put_off hk
    · rw [hW, put_ptch]
      have e : vop P (σ1.get P) o.op = vop P (σ.get P) o.op := vop_loc fun y hy t => get_loc (fun k hk => h1 k (by unfold stR; simp [hk])) hy t
      exact vop_sound (e.trans hx) hp
  · unfold st at h
    rw [if_neg hv] at h
    exact st0_loc h hp

/-- Without a guard. -/
theorem LocS.loc {ops : Array Oper} {o : Oper} {R W : List Ky} {σ σ' : St} (hg : o.guard = none) (h : LocS P o R W σ σ') : Loc P ops o R W σ σ' :=
  ⟨h.1, h.2.1, h.2.2.1, fun σ1 h1 n0 N g a w hR hn hd => by
    have : Region.wanted o (yielded ops a.tmps) = true := by simp [Region.wanted, hg]
    rw [if_pos this]
    exact h.2.2.2 σ1 h1 n0 N g a w hR hn hd⟩
theorem wanted_of {ops : Array Oper} {o : Oper} {n0 : Nat → Prop} {N : Nat} {σ : St} {g : Gh} {a : Act} {w : World} (hR : Rel n0 N σ g a w) {j d : Nat} {want c : Bool} (hg : o.guard = some (j, want)) (hd : (ops[j]?).bind (·.dst) = some d) (hc : σ.sl d = .one (.t (.bool c))) : Region.wanted o (yielded ops a.tmps) = (c == want) := by
  have hv := hR.slots d
  rw [hc] at hv
  simp only [VR, CR, RepV] at hv
  have hy : yielded ops a.tmps j = some c := by
    unfold yielded
    rw [hd]
    simp only [Option.bind_some]
    cases ht : a.tmps[d]? with
    | none => rw [Array.getD_eq_getD_getElem?, ht] at hv; exact absurd hv (g.R0.nb _ _)
    | some u => rw [Array.getD_eq_getD_getElem?, ht] at hv; simp only [Option.getD_some] at hv; subst hv; rfl
  unfold Region.wanted
  rw [hg]
  simp only [hy]
  cases c <;> cases want <;> rfl
theorem LocS.run {ops : Array Oper} {o : Oper} {R W : List Ky} {σ σ' : St} {j d : Nat} {want : Bool} (hg : o.guard = some (j, want)) (hd : (ops[j]?).bind (·.dst) = some d) (hc : σ.sl d = .one (.t (.bool want))) (h : LocS P { o with guard := none } R W σ σ') : Loc P ops o ((0, d) :: R) W σ σ' := by
  refine ⟨h.1, ?_, h.2.2.1, fun σ1 h1 n0 N g a w hR hn hdn => ?_⟩
  · have := h.2.1; unfold okK at *; simpa using this
  · have hc1 : σ1.sl d = .one (.t (.bool want)) := (show σ.sl d = σ1.sl d from h1 (0, d) (by simp)) ▸ hc
    rw [wanted_of hR hg hd hc1, beq_self_eq_true, if_pos rfl]
    exact h.2.2.2 σ1 (fun k hk => h1 k (by simp [hk])) n0 N g a w hR hn hdn
theorem Loc.skip {ops : Array Oper} {o : Oper} {σ : St} {j d : Nat} {want : Bool} (hg : o.guard = some (j, want)) (hd : (ops[j]?).bind (·.dst) = some d) (hc : σ.sl d = .one (.t (.bool !want))) : Loc P ops o [(0, d)] (dK o.dst) σ (σ.put o.dst (.tup [])) := by
  refine ⟨dK_ok _, rfl, fun k _ hk => put_off hk, fun σ1 h1 n0 N g a w hR hn hdn => ?_⟩
  have hc1 : σ1.sl d = .one (.t (.bool !want)) := (show σ.sl d = σ1.sl d from h1 (0, d) (by simp)) ▸ hc
  rw [wanted_of hR hg hd hc1, show ((!want) == want) = false by cases want <;> rfl]
  simp only [Bool.false_eq_true, if_false]
  rw [put_ptch]
  exact ⟨g, hR.put _ (x := .tup []) ⟨[], rfl, rfl⟩ hdn, rfl, rfl⟩
theorem Loc.skipT {ops : Array Oper} {o : Oper} {σ : St} {j d : Nat} {want : Bool} {xs : List (Bool × List C)} (hg : o.guard = some (j, want)) (hd : (ops[j]?).bind (·.dst) = some d) (hc : σ.sl d = .tup xs) : Loc P ops o [(0, d)] (dK o.dst) σ (σ.put o.dst (.tup [])) := by
  refine ⟨dK_ok _, rfl, fun k _ hk => put_off hk, fun σ1 h1 n0 N g a w hR hn hdn => ?_⟩
  have hc1 : σ1.sl d = .tup xs := (show σ.sl d = σ1.sl d from h1 (0, d) (by simp)) ▸ hc
  have hv := hR.slots d
  rw [hc1] at hv
  obtain ⟨vs, hv, _⟩ := hv
  have hy : yielded ops a.tmps j = none := by
    unfold yielded
    rw [hd]
    simp only [Option.bind_some]
    cases ht : a.tmps[d]? with
    | none => rfl
    | some u => rw [Array.getD_eq_getD_getElem?, ht] at hv; simp only [Option.getD_some] at hv; subst hv; rfl
  have hw : Region.wanted o (yielded ops a.tmps) = false := by
    unfold Region.wanted
    rw [hg]
    simp only [hy]
    rfl
  rw [hw]
  simp only [Bool.false_eq_true, if_false]
  rw [put_ptch]
  exact ⟨g, hR.put _ (x := .tup []) ⟨[], rfl, rfl⟩ hdn, rfl, rfl⟩

/-- A region's operations in the order of the text, with the places that each looks at and turns. -/
def drwOp1 (P : Program) (o : Oper) (σ : St) (K : List Ky → List Ky → St → Prop) : Prop :=
  if semS P o σ = true then ∃ R W σ', LocS P o R W σ σ' ∧ K R W σ' else match st P o σ with
  | some (p, σ') => p ∧ K (stR P o σ) (stW P o σ) σ'
  | none => False
def drwG (P : Program) (ops : Array Oper) (o : Oper) (σ : St) (K : List Ky → List Ky → St → Prop) : Prop :=
  match o.guard with
  | none => drwOp1 P o σ K
  | some (j, want) => match (ops[j]?).bind (·.dst) with
    | some d => match σ.sl d with
      | .one (.t (.bool c)) => (c = want → drwOp1 P { o with guard := none } (σ.put (some d) (.one (.t (.bool want)))) fun R W σ' => K ((0, d) :: R) W σ') ∧ (c = !want → K [(0, d)] (dK o.dst) ((σ.put (some d) (.one (.t (.bool !want)))).put o.dst (.tup [])))
      | .tup _ => K [(0, d)] (dK o.dst) (σ.put o.dst (.tup []))
      | _ => False
    | none => False
def drwOps (P : Program) (ops : Array Oper) : List Oper → List (List Ky × List Ky) → St → (St → Prop) → Prop
  | [], L, σ, K => ordOk ops L = true ∧ K σ
  | o :: os, L, σ, K => drwG P ops o σ fun R W σ' => drwOps P ops os (L ++ [(R, W)]) σ' K

theorem drwOp1_sound {o : Oper} {σ : St} {K : List Ky → List Ky → St → Prop} (h : drwOp1 P o σ K) : ∃ R W σ', LocS P o R W σ σ' ∧ K R W σ' := by
  unfold drwOp1 at h
  split at h
  · exact h
  · split at h
    · rename_i p σ' hst; exact ⟨_, _, _, st_loc hst h.1, h.2⟩
    · exact h.elim
theorem drwG_sound {ops : Array Oper} {o : Oper} {σ : St} {K : List Ky → List Ky → St → Prop} (h : drwG P ops o σ K) : ∃ R W σ', Loc P ops o R W σ σ' ∧ K R W σ' := by
  unfold drwG at h
  split at h
  · rename_i hg
    obtain ⟨R, W, σ', h1, h2⟩ := drwOp1_sound h
    exact ⟨R, W, σ', h1.loc hg, h2⟩
  · rename_i j want hg
    split at h
    · rename_i d hd
      split at h
      · rename_i c hc
        by_cases hcw : c = want
        · subst hcw
          obtain ⟨R, W, σ', h1, h2⟩ := drwOp1_sound (h.1 rfl)
          rw [put_self hc] at h1
          exact ⟨_, W, σ', h1.run hg hd hc, h2⟩
        · have hnot : c = !want := by cases c <;> cases want <;> simp_all
          subst hnot
          have hh := h.2 rfl
          rw [put_self hc] at hh
          exact ⟨_, _, _, Loc.skip hg hd hc, hh⟩
      · rename_i xs hc
        exact ⟨_, _, _, Loc.skipT hg hd hc, h⟩
      · exact h.elim
    · exact h.elim
theorem drwOps_sound {ops : Array Oper} {K : St → Prop} : ∀ (os : List Oper) (i : Nat) (L : List (List Ky × List Ky)) (σs : Nat → St), os = ops.toList.drop i → i ≤ ops.size → L.length = i →
    (∀ j (h : j < ops.size), j < i → Loc P ops ops[j] (L.getD j ([], [])).1 (L.getD j ([], [])).2 (σs j) (σs (j + 1))) → drwOps P ops os L (σs i) K →
    ∃ (L' : List (List Ky × List Ky)) (σs' : Nat → St), σs' 0 = σs 0 ∧ (∀ j (h : j < ops.size), Loc P ops ops[j] (L'.getD j ([], [])).1 (L'.getD j ([], [])).2 (σs' j) (σs' (j + 1))) ∧ ordOk ops L' = true ∧ K (σs' ops.size)
  | [], i, L, σs, ho, hi, hl, hloc, h => by
    have hle : ops.size ≤ i := by
      have := congrArg List.length ho
      simp at this; omega
    have hie : i = ops.size := by omega
    subst hie
    exact ⟨L, σs, rfl, fun j hj => hloc j hj hj, h.1, h.2⟩
  | o :: os, i, L, σs, ho, hi, hl, hloc, h => by
    have hlt : i < ops.size := by
      have := congrArg List.length ho
      simp at this; omega
    have hcons : ops.toList.drop i = ops[i] :: ops.toList.drop (i + 1) := by
      rw [List.drop_eq_getElem_cons (by simpa using hlt)]; rfl
    rw [hcons] at ho
    obtain ⟨rfl, hos⟩ := List.cons.inj ho
    obtain ⟨R, W, σ', h1, h2⟩ := drwG_sound h
    have := drwOps_sound os (i + 1) (L ++ [(R, W)]) (fun j => if j ≤ i then σs j else σ') hos (by omega) (by simp [hl]) (fun j hj hji => by
      by_cases hje : j = i
      · subst hje
        have hg : (L ++ [(R, W)]).getD j ([], []) = (R, W) := by simp [List.getD, ← hl]
        rw [hg, if_pos (Nat.le_refl _), if_neg (by omega)]
        exact h1
      · have hg : (L ++ [(R, W)]).getD j ([], []) = L.getD j ([], []) := by
          simp only [List.getD_eq_getElem?_getD]; rw [List.getElem?_append_left (by omega)]
        rw [hg, if_pos (by omega), if_pos (by omega)]
        exact hloc j hj (by omega)) (by rw [if_neg (by omega)]; exact h2)
    simpa using this
/-- Operations in any order: the order of the text is enough, where none that may run in another order looks at what another turns. -/
theorem drawn_sound {id : Nat} {ops : Array Oper} {σ : St} {K : St → Prop} (hm : P.follows .mixedOrders = true) (h : drwOps P ops ops.toList [] σ K) : DrawSem P id ops σ K := by
  intro n0 N g a w hR hn hd
  obtain ⟨L, σs, h0, hloc, hord, hK⟩ := drwOps_sound ops.toList 0 [] (fun _ => σ) rfl (Nat.zero_le _) rfl (fun j _ hj => by omega) h
  refine wp_region_any hm ?_
  have hb : Below w.heap.size w { w with drawn := w.drawn + 1 } := ⟨rfl, rfl, rfl, Nat.le_refl _, fun _ _ => rfl⟩
  have hR' : Rel n0 N (σs 0) g a { w with drawn := w.drawn + 1 } := by
    rw [h0]
    exact hR.after hn hb (New.refl σ g w _ hR.slc)
  have hF : Fp σs (fun i => L.getD i ([], [])) (fun i => (Array.replicate ops.size false).getD i false) ops.size = σs 0 := by
    have hp : ∀ i, (Array.replicate ops.size false).getD i false = false := fun i => by
      simp only [Array.getD_eq_getD_getElem?, Array.getElem?_replicate]; split <;> rfl
    have : ∀ m, Fp σs (fun i => L.getD i ([], [])) (fun i => (Array.replicate ops.size false).getD i false) m = σs 0 := by
      intro m
      induction m with
      | zero => rfl
      | succ m ih => unfold Fp; rw [hp, if_neg (by simp)]; exact ih
    exact this _
  have hcnt : cnt (fun i => (Array.replicate ops.size false).getD i false) ops.size = ops.size := by
    have hp : ∀ i, (Array.replicate ops.size false).getD i false = false := fun i => by
      simp only [Array.getD_eq_getD_getElem?, Array.getElem?_replicate]; split <;> rfl
    have : ∀ m, cnt (fun i => (Array.replicate ops.size false).getD i false) m = m := by
      intro m
      induction m with
      | zero => rfl
      | succ m ih => unfold cnt; rw [hp, if_neg (by simp), ih]; omega
    exact this _
  refine drawn_all (w0 := w) (A0 := (g.A0, g.R0)) hloc hord hd (fun g' a' w' k1 k2 k3 k4 => ⟨rfl, _, g', hK, k1, k2, k3, (Prod.mk.inj k4).1, (Prod.mk.inj k4).2⟩) ops.size _ g a _ (by simp) hcnt (fun j h hl => ?_) (by rw [hF]; exact hR') (hn.mono (Nat.le_refl _)) (Bk.of_below hb hn) rfl
  simp only [Array.getD_eq_getD_getElem?, Array.getElem?_replicate] at hl
  split at hl <;> cases hl
end Go.Proofs.Ytgfjbbbkploonaa
