/-
  The walk over plain data, and contracts of functions of the program and of its laws.
  Conditions: those that each theorem names.
-/
import Derived.Test.YteeaofpphmhjdaaQC2
import Derived.Laws.MakeOwn
import Derived.MapKept
import Derived.RangeFuncNested
import Derived.RangeFuncLeaves
import Derived.Test.YteeaofpphmhjdaaProg
import Derived.KernelRfl
import Derived.Test.YteeaofpphmhjdaaQC1
namespace Go.Proofs.Yteeaofpphmhjdaa
set_option linter.unusedSimpArgs false
set_option linter.unusedVariables false
set_option linter.unusedSectionVars false
set_option maxRecDepth 4000
open Go.RowKit
variable {P : Program}
def dK : Option Nat -> List Ky
 | some d => [(0, d)]
 | none => []
def zaq : List Operand -> List Ky
 | [] => []
 | .tmp t :: l => (0, t) :: zaq l
 | _ :: l => zaq l
def zgm : Op -> List Operand
 | .move x | .assign x | .box _ x | .load _ x | .nilCheck x | .unOp _ _ x | .convert _ _ x | .fieldAddr _ x _ | .field _ x _ | .extract x _ => [x]
 | .pick c a b => [c, a, b]
 | .build _ ps => ps.toList.map (·.2)
 | .store _ a v | .binOp _ _ a v _ | .indexAddr _ a v | .index _ a v => [a, v]
 | .makeFunc _ _ captured => captured.toList
 | .call { args, .. } => args.toList
 | .slice _ x l h m => x :: (l.toList ++ h.toList ++ m.toList)
 | _ => []
def vK : V -> List Ky
 | .one (.bx b _) => [(1, b)]
 | .one (.ow e _) => [(2, e)]
 | .one (.eo e _ _ _ _) => [(2, e)]
 | _ => []
def bK : Option Nat -> List Ky
 | some d => [(1, d)]
 | none => []
def lenK (get : TypeId -> Operand -> V) : List Operand -> List TypeId -> List Ky
 | [x], [t] => vK (get t x)
 | _, _ => []
def zmt (P : Program) (o : Oper) (σ : St) : List Ky :=
 match o.op with
 | .load _ x => vK (σ.get P 0 x)
 | .indexAddr t x _ => vK (σ.get P t x)
 | .convert s _ x => vK (σ.get P s x)
 | .call { callee := .builtin .len, args, argTypes } => lenK (σ.get P) args.toList argTypes.toList
 | .alloc _ => bK o.dst
 | .box _ _ => bK o.dst
 | .store _ a _ => vK (σ.get P 0 a)
 | _ => []
def zkk (P : Program) (o : Oper) (σ : St) : List Ky :=
 match o.op with
 | .alloc _ => bK o.dst
 | .box _ _ => bK o.dst
 | .store _ a _ => vK (σ.get P 0 a)
 | _ => []
def stR (P : Program) (o : Oper) (σ : St) : List Ky := zaq (zgm o.op) ++ zmt P o σ
def stW (P : Program) (o : Oper) (σ : St) : List Ky := dK o.dst ++ zkk P o σ
theorem zfd {x : Nat} : ∀ {l : List Operand}, Operand.tmp x ∈ l -> (0, x) ∈ zaq l
 | [], h => by simp at h
 | y :: l, h => by
  rcases List.mem_cons.1 h with h | h
  ·subst h; simp [zaq]
  ·have := zfd h
   cases y <;> simp [zaq, this]
theorem zcv {σ σ1 : St} {l : List Operand} (h : ∀ k ∈ zaq l, zas σ σ1 k) {x : Operand} (hx : x ∈ l) (t : TypeId) : σ1.get P t x = σ.get P t x := by
 cases x with
 | tmp i =>
  show (if i < 1000000 then σ1.sl i else .one .any) = (if i < 1000000 then σ.sl i else .one .any)
  rw [show σ1.sl i = σ.sl i from (h (0, i) (zfd hx)).symm]
 | const v => rfl
 | global g => rfl
 | func f => rfl
theorem at_loc {σ σ1 : St} {v : V} (h : ∀ k ∈ vK v, zas σ σ1 k) : σ1.at v = σ.at v := by
 unfold St.at
 split
 ·rename_i b o; have := h (1, b) (by simp [vK]); rw [show σ1.bx b = σ.bx b from Eq.symm this]
 ·rfl
 ·rfl
 ·rfl
 ·rename_i e g z i o; have := h (2, e) (by simp [vK]); rw [show σ1.ev e = σ.ev e from Eq.symm this]
 ·rfl
theorem zd7 (σ σ1 : St) (d : Option Nat) (v : V) : zja σ1 (dK d) (σ.put d v) = σ1.put d v := by
 cases d with
 | none => exact zas.all3 fun c i hc => zbl hc (by simp [dK])
 | some d =>
  obtain ⟨s, b, e⟩ := σ1
  unfold zja St.put dK
  simp only [List.mem_cons, List.not_mem_nil, or_false, Prod.mk.injEq, St.mk.injEq]
  refine ⟨funext fun i => ?_, funext fun i => ?_, funext fun i => ?_⟩
  ·by_cases hi : i = d
   ·subst hi; simp [zac]
   ·simp [hi, zae]
  ·simp
  ·simp
theorem zdg {σ : St} {d : Option Nat} {v : V} {k : Ky} (h : k ∉ dK d) : zas σ (σ.put d v) k := by
 cases d with
 | none => exact zas.refl _ _
 | some d =>
  obtain ⟨n, i⟩ := k
  match n with
  | 0 =>
   have hi : i ≠ d := fun hi => h (by subst hi; simp [dK])
   exact (zae σ.sl v hi).symm
  | 1 => rfl
  | n + 2 => rfl
theorem zj9 (d : Option Nat) : okK (dK d) = true := by cases d <;> rfl
theorem bK_ok (d : Option Nat) : okK (bK d) = true := by cases d <;> rfl
theorem zsh (v : V) : okK (vK v) = true := by unfold vK; split <;> rfl
theorem zc1 : ∀ l : List Operand, okK (zaq l) = true
 | [] => rfl
 | x :: l => by
  have := zc1 l
  unfold okK at *
  cases x <;> simpa [zaq] using this
theorem zbk {a b : List Ky} (ha : okK a = true) (hb : okK b = true) : okK (a ++ b) = true := by
 unfold okK at *
 rw [List.all_append, ha, hb]; rfl
theorem zng (o : Oper) (σ : St) : okK (zmt P o σ) = true := by
 unfold zmt
 split <;> first | exact zsh _ | exact bK_ok _ | rfl | skip
 unfold lenK
 split
 ·exact zsh _
 ·rfl
theorem znl (o : Oper) (σ : St) : okK (zkk P o σ) = true := by
 unfold zkk
 split <;> first | exact zsh _ | exact bK_ok _ | rfl
def zk7 (P : Program) (o : Oper) (σ σ' σ1 : St) (p : Prop) : Prop := ∃ v, σ' = σ.put o.dst v /\ st0 P o σ1 = some (p, σ1.put o.dst v)
theorem za3 {σ σ' : St} (σ1 : St) {d : Option Nat} {X : Option V} {p : Prop} (h : σ.out d X = some (p, σ')) : ∃ v, σ' = σ.put d v /\ σ1.out d X = some (p, σ1.put d v) := by
 unfold St.out at *
 cases X with
 | none => cases h
 | some v => simp only [Option.map_some, Option.some.injEq, Prod.mk.injEq] at h ⊢; exact ⟨v, h.2.symm, h.1, rfl⟩
theorem zp9 {σ σ' : St} (σ1 : St) {d : Option Nat} {X : Option (Prop × C)} {p : Prop} (h : σ.outP d X = some (p, σ')) : ∃ v, σ' = σ.put d v /\ σ1.outP d X = some (p, σ1.put d v) := by
 unfold St.outP at *
 cases X with
 | none => cases h
 | some v => simp only [Option.map_some, Option.some.injEq, Prod.mk.injEq] at h ⊢; exact ⟨.one v.2, h.2.symm, h.1, rfl⟩
theorem zd2 {σ σ' : St} (σ1 : St) {d : Option Nat} {v0 : V} {q p : Prop} (h : some (q, σ.put d v0) = some (p, σ')) : ∃ v, σ' = σ.put d v /\ some (q, σ1.put d v0) = some (p, σ1.put d v) := by
 simp only [Option.some.injEq, Prod.mk.injEq] at h; exact ⟨v0, h.2.symm, by rw [h.1]⟩
theorem zfl {f g : TypeId -> Operand -> V} {t : TypeId} {pls : List (Nat × Nat)} : ∀ {parts : List (Nat × Operand)} {cs : List C}, (∀ t, ∀ x ∈ parts.map (·.2), g t x = f t x) -> zbw P t pls g parts cs = zbw P t pls f parts cs
 | [], _, _ => rfl
 | (i, x) :: rest, cs, h => by
  have hx : ∀ t, g t x = f t x := fun t => h t x (by simp)
  have hr : ∀ cs, zbw P t pls g rest cs = zbw P t pls f rest cs := fun cs => zfl fun t y hy => h t y (by simp at hy ⊢; exact Or.inr hy)
  unfold zbw
  split
  ·rw [hx]; split
   ·exact hr _
   ·rfl
  ·rfl
theorem zea {f g : Operand -> V} : ∀ {l : List Operand}, (∀ x ∈ l, g x = f x) -> zb2 g l = zb2 f l
 | [], _ => rfl
 | x :: l, h => by
  unfold zb2
  rw [h x (by simp), zea fun y hy => h y (by simp [hy])]
theorem st_put {o : Oper} {σ σ' : St} {p : Prop} (h : st0 P o σ = some (p, σ')) (σ1 : St) (h1 : ∀ k ∈ zaq (zgm o.op), zas σ σ1 k) (h2 : ∀ k ∈ zmt P o σ, zas σ σ1 k) :
  zk7 P o σ σ' σ1 p \/ (∃ t, o.op = .alloc t) \/ (∃ t x, o.op = .box t x) \/ ∃ t x y, o.op = .store t x y := by
 have hg : ∀ x ∈ zgm o.op, ∀ t, σ1.get P t x = σ.get P t x := fun x hx t => zcv h1 hx t
 unfold zk7
 unfold st0 at h ⊢
 unfold zmt at h2
 split at h
 all_goals rename_i ho
 all_goals try rw [ho] at hg
 all_goals try simp only [zgm] at hg
 ·left; (try simp only [ho]); rw [hg _ (by simp)]; exact za3 σ1 h
 ·left; (try simp only [ho]); rw [hg _ (by simp)]; exact za3 σ1 h
 ·left; (try simp only [ho]); rw [hg _ (by simp), hg _ (by simp), hg _ (by simp)]
  split at h
  ·rename_i hc; (try rw [hc]); exact za3 σ1 h
  ·cases h
 ·left; (try simp only [ho] at h2 ⊢); rw [hg _ (by simp), at_loc h2]; exact za3 σ1 h
 ·left; (try simp only [ho]); rw [hg _ (by simp), hg _ (by simp)]; exact zp9 σ1 h
 ·left; (try simp only [ho]); rw [hg _ (by simp)]; exact za3 σ1 h
 ·left; (try simp only [ho]); rw [hg _ (by simp)]
  split at h
  ·rename_i hc; (try rw [hc]); exact za3 σ1 h
  ·cases h
 ·left; (try simp only [ho]); rw [hg _ (by simp)]
  obtain ⟨y, e1, h⟩ := Option.bind_eq_some_iff.1 h
  obtain ⟨q, ft⟩ := y
  obtain ⟨m, e2, h⟩ := Option.bind_eq_some_iff.1 h
  rw [e1]
  simp only [Option.bind_some]
  rw [e2]
  simp only [Option.bind_some]
  split at h
  ·cases h
  ·rw [if_neg ‹_›]
   split at h
   all_goals first
    | (rename_i hc; (try rw [hc]); exact za3 σ1 h)
    | cases h
 ·left; (try simp only [ho]); rw [hg _ (by simp)]
  obtain ⟨y, e1, h⟩ := Option.bind_eq_some_iff.1 h
  obtain ⟨q, ft⟩ := y
  rw [e1]
  simp only [Option.bind_some]
  simp only at h
  split at h
  ·rename_i hc; (try rw [hc]); exact za3 σ1 h
  ·cases h
 ·left; (try simp only [ho] at h2 ⊢); rw [hg _ (by simp), hg _ (by simp)]
  obtain ⟨m, e1, h⟩ := Option.bind_eq_some_iff.1 h
  rw [e1]
  simp only [Option.bind_some]
  split at h
  ·rename_i hc hc'; (try rw [hc, hc']); exact zd2 σ1 h
  ·rename_i hc hc'; (try rw [hc, hc']); exact zd2 σ1 h
  ·rename_i e g kk k hc hc'
   (try rw [hc, hc'])
   have he : σ1.ev e = σ.ev e := Eq.symm (h2 (2, e) (by rw [hc]; simp [vK]))
   (try simp only)
   (try rw [he])
   obtain ⟨x, e2, h⟩ := Option.bind_eq_some_iff.1 h
   rw [e2]
   simp only [Option.bind_some]
   split at h
   ·(try rw [if_pos ‹_›]); exact zd2 σ1 h
   ·cases h
  ·cases h
 ·left; (try simp only [ho]); rw [hg _ (by simp), hg _ (by simp)]
  split at h
  ·rename_i hc hc'; (try rw [hc, hc'])
   (try simp only)
   split at h
   ·(try rw [if_pos ‹_›]); exact zd2 σ1 h
   ·cases h
  ·cases h
 ·left; (try simp only [ho]); rw [hg _ (by simp)]
  split at h
  all_goals first
   | (rename_i hc; (try rw [hc]); exact za3 σ1 h)
   | cases h
 ·left; (try simp only [ho] at h2 ⊢); rw [hg _ (by simp)]
  have hcv : ∀ s d x, (∀ k ∈ vK (σ.get P s x), zas σ σ1 k) -> zh5 P σ1 s d (σ.get P s x) = zh5 P σ s d (σ.get P s x) := fun s d x hk => by
   unfold zh5
   split
   ·generalize σ.get P s x = v at hk
    cases v with
    | one c =>
     cases c with
     | ow e g =>
      have he : σ1.ev e = σ.ev e := Eq.symm (hk (2, e) (by simp [vK]))
      simp only [he]
     | t x => cases x <;> rfl
     | _ => rfl
    | _ => rfl
   ·rfl
  split at h
  ·rename_i e1 e2 hc; (try rw [e1, e2, hc]); exact za3 σ1 h
  ·rename_i hn
   rw [hcv _ _ _ h2]
   exact za3 σ1 h
 ·left; (try simp only [ho] at h2 ⊢)
  split at h
  ·rename_i e1 e2
   (try rw [e1] at h2)
   (try rw [e2] at h2)
   rw [e1] at hg
   rw [hg _ (by simp)]
   split at h
   ·rename_i hc; (try rw [hc]); (try simp only)
    split at h
    ·(try rw [if_pos ‹_›]); exact za3 σ1 h
    ·cases h
   ·rename_i hc; (try rw [hc]); (try simp only)
    split at h
    ·(try rw [if_pos ‹_›]); exact za3 σ1 h
    ·cases h
   ·rename_i hc; (try rw [hc]); (try simp only)
    split at h
    ·(try rw [if_pos ‹_›]); exact za3 σ1 h
    ·cases h
   ·rename_i hc; (try rw [hc]); (try simp only)
    split at h
    ·(try rw [if_pos ‹_›]); exact za3 σ1 h
    ·cases h
   ·rename_i e g hc
    have he : σ1.ev e = σ.ev e := Eq.symm (h2 (2, e) (by show _ ∈ vK _; rw [hc]; simp [vK]))
    (try rw [hc]); (try simp only)
    split at h
    ·(try rw [if_pos ‹_›]); rw [he]
     obtain ⟨x, e3, h⟩ := Option.bind_eq_some_iff.1 h
     rw [e3]
     simp only [Option.bind_some]
     split at h
     ·(try rw [if_pos ‹_›]); exact za3 σ1 h
     ·cases h
    ·cases h
   ·cases h
  ·cases h
 ·right; left; exact ⟨_, ho⟩
 ·right; right; left; exact ⟨_, _, ho⟩
 ·right; right; right; exact ⟨_, _, _, ho⟩
 ·left; (try simp only [ho])
  obtain ⟨pls, e1, h⟩ := Option.bind_eq_some_iff.1 h
  rw [e1]
  simp only [Option.bind_some]
  rw [show (fun z => Option.map V.agg (zbw P _ pls (σ1.get P) _ z)) = fun z => Option.map V.agg (zbw P _ pls (σ.get P) _ z) from funext fun z => by rw [zfl fun t x hx => hg x hx t]]
  exact za3 σ1 h
 ·left; (try simp only [ho])
  split at h
  ·rw [if_pos ‹_›, zea fun x hx => hg x hx 0]
   obtain ⟨bs, e1, h⟩ := Option.bind_eq_some_iff.1 h
   rw [e1]
   exact za3 σ1 h
  ·cases h
 ·cases h
theorem ziq {σ σ1 : St} {d b : Nat} {v : V} {cs : Option (List C)} : zja σ1 [(0, d), (1, b)] { sl := upd σ.sl d v, bx := upd σ.bx b cs, ev := σ.ev } = { sl := upd σ1.sl d v, bx := upd σ1.bx b cs, ev := σ1.ev } := by
 obtain ⟨s, bb, e⟩ := σ1
 unfold zja
 simp only [List.mem_cons, List.not_mem_nil, or_false, Prod.mk.injEq, St.mk.injEq]
 refine ⟨funext fun i => ?_, funext fun i => ?_, funext fun i => ?_⟩
 ·by_cases hi : i = d
  ·subst hi; simp [zac]
  ·simp [hi, zae]
 ·by_cases hi : i = b
  ·subst hi; simp [zac]
  ·simp [hi, zae]
 ·simp
theorem ptch_b {σ σ1 : St} {b : Nat} {cs : Option (List C)} : zja σ1 [(1, b)] { sl := σ.sl, bx := upd σ.bx b cs, ev := σ.ev } = { sl := σ1.sl, bx := upd σ1.bx b cs, ev := σ1.ev } := by
 obtain ⟨s, bb, e⟩ := σ1
 unfold zja
 simp only [List.mem_cons, List.not_mem_nil, or_false, Prod.mk.injEq, St.mk.injEq]
 refine ⟨funext fun i => ?_, funext fun i => ?_, funext fun i => ?_⟩
 ·simp
 ·by_cases hi : i = b
  ·subst hi; simp [zac]
  ·simp [hi, zae]
 ·simp
theorem zgc {σ : St} {d b : Nat} {v : V} {cs : Option (List C)} {k : Ky} (h : k ∉ [(0, d), (1, b)]) : zas σ { sl := upd σ.sl d v, bx := upd σ.bx b cs, ev := σ.ev } k := by
 obtain ⟨n, i⟩ := k
 match n with
 | 0 => exact (zae σ.sl v (fun hi => h (by subst hi; simp))).symm
 | 1 => exact (zae σ.bx cs (fun hi => h (by subst hi; simp))).symm
 | n + 2 => rfl
theorem zr1 {σ : St} {b : Nat} {cs : Option (List C)} {k : Ky} (h : k ∉ [(1, b)]) : zas σ { sl := σ.sl, bx := upd σ.bx b cs, ev := σ.ev } k := by
 obtain ⟨n, i⟩ := k
 match n with
 | 0 => rfl
 | 1 => exact (zae σ.bx cs (fun hi => h (by subst hi; simp))).symm
 | n + 2 => rfl
theorem zrt {o : Oper} {σ σ' : St} {p : Prop} (h : st0 P o σ = some (p, σ')) (hp : p) : zit P o (stR P o σ) (stW P o σ) σ σ' := by
 refine ⟨zbk (zj9 _) (znl _ _), zbk (zc1 _) (zng _ _), ?_⟩
 suffices hs : (∀ k : Ky, k.1 < 3 -> k ∉ stW P o σ -> zas σ σ' k) /\ ∀ σ1, (∀ k ∈ stR P o σ, zas σ σ1 k) -> st0 P o σ1 = some (p, zja σ1 (stW P o σ) σ') from
  ⟨hs.1, fun σ1 h1 => zg2 (hs.2 σ1 h1) hp⟩
 have hput := fun σ1 h1 h2 => st_put h σ1 h1 h2
 by_cases hx : (∃ t, o.op = .alloc t) \/ (∃ t x, o.op = .box t x) \/ ∃ t x y, o.op = .store t x y
 ·clear hput
  rcases hx with ⟨t, ho⟩ | ⟨t, x, ho⟩ | ⟨t, x, y, ho⟩
  ·unfold st0 at h ⊢
   unfold stR stW zmt zkk zgm
   simp only [ho] at h ⊢
   cases hd : o.dst with
   | none => rw [hd] at h; cases h
   | some d =>
    rw [hd] at h
    simp only at h ⊢
    split at h
    ·obtain ⟨z, hz, h⟩ := Option.bind_eq_some_iff.1 h
     simp only [Option.some.injEq, Prod.mk.injEq] at h
     obtain ⟨rfl, rfl⟩ := h
     refine ⟨fun k _ hk => zgc hk, fun σ1 h1 => ?_⟩
     have hb : σ.bx d = σ1.bx d := h1 (1, d) (by simp [bK])
     rw [<- hb, if_pos ‹_›, hz]
     simp only [Option.bind_some, Option.some.injEq, Prod.mk.injEq, true_and]
     exact ziq.symm
    ·cases h
  ·unfold st0 at h ⊢
   unfold stR stW zmt zkk zgm
   simp only [ho] at h ⊢
   cases hd : o.dst with
   | none => rw [hd] at h; cases h
   | some d =>
    rw [hd] at h
    simp only at h ⊢
    split at h
    ·simp only [Option.some.injEq, Prod.mk.injEq] at h
     obtain ⟨rfl, rfl⟩ := h
     refine ⟨fun k _ hk => zgc hk, fun σ1 h1 => ?_⟩
     have hb : σ.bx d = σ1.bx d := h1 (1, d) (by simp [bK])
     have hg : σ1.get P t x = σ.get P t x := zcv (l := [x]) (fun k hk => h1 k (by simp [hk])) (by simp) t
     rw [<- hb, hg, if_pos ‹_›]
     simp only [Option.some.injEq, Prod.mk.injEq, true_and]
     exact ziq.symm
    ·cases h
  ·unfold st0 at h ⊢
   unfold stR stW zmt zkk zgm
   simp only [ho] at h ⊢
   split at h
   ·rename_i b q n hx hn
    obtain ⟨cs, hcs, h⟩ := Option.bind_eq_some_iff.1 h
    split at h
    ·simp only [Option.some.injEq, Prod.mk.injEq] at h
     obtain ⟨rfl, rfl⟩ := h
     rw [hx]
     simp only [vK]
     have fin : ∀ σ1 : St, (∀ k ∈ zaq [x, y] ++ [(1, b)], zas σ σ1 k) -> σ1.get P 0 x = .one (.bx b q) /\ σ1.get P t y = σ.get P t y /\ σ1.bx b = some cs := fun σ1 h1 => by
      have hg : σ1.get P 0 x = σ.get P 0 x := zcv (l := [x, y]) (fun k hk => h1 k (by simp [hk])) (by simp) 0
      have hg' : σ1.get P t y = σ.get P t y := zcv (l := [x, y]) (fun k hk => h1 k (by simp [hk])) (by simp) t
      have hb : σ.bx b = σ1.bx b := h1 (1, b) (by simp)
      exact ⟨hg.trans hx, hg', hb.symm.trans hcs⟩
     cases hd : o.dst with
     | none =>
      refine ⟨fun k _ hk => zr1 hk, fun σ1 h1 => ?_⟩
      obtain ⟨k1, k2, k3⟩ := fin σ1 h1
      rw [k1, k2]
      simp only [hn, k3, Option.bind_some]
      rw [if_pos ‹_›]
      simp only [Option.some.injEq, Prod.mk.injEq, true_and]
      exact ptch_b.symm
     | some d =>
      refine ⟨fun k _ hk => zgc hk, fun σ1 h1 => ?_⟩
      obtain ⟨k1, k2, k3⟩ := fin σ1 h1
      rw [k1, k2]
      simp only [hn, k3, Option.bind_some]
      rw [if_pos ‹_›]
      simp only [Option.some.injEq, Prod.mk.injEq, true_and]
      exact (ziq (σ := σ) (σ1 := σ1) (d := d) (b := b) (v := .one .any)).symm
    ·cases h
   ·cases h
 ·have hW : stW P o σ = dK o.dst := by
   unfold stW zkk
   split
   ·exact absurd (Or.inl ⟨_, ‹_›⟩) hx
   ·exact absurd (Or.inr (Or.inl ⟨_, _, ‹_›⟩)) hx
   ·exact absurd (Or.inr (Or.inr ⟨_, _, _, ‹_›⟩)) hx
   ·simp
  have key : ∀ σ1, (∀ k ∈ stR P o σ, zas σ σ1 k) -> zk7 P o σ σ' σ1 p := fun σ1 h1 => by
   rcases hput σ1 (fun k hk => h1 k (by unfold stR; simp [hk])) (fun k hk => h1 k (by unfold stR; simp [hk])) with hh | hh
   ·exact hh
   ·exact absurd hh hx
  rw [hW]
  refine ⟨fun k _ hk => ?_, fun σ1 h1 => ?_⟩
  ·obtain ⟨v, rfl, _⟩ := key σ fun k _ => zas.refl _ _
   exact zdg hk
  ·obtain ⟨v, e1, e2⟩ := key σ1 h1
   rw [e1, zd7]; exact e2
theorem zjr {f g : TypeId -> Operand -> V} {d : Int} {x : Option Operand} (h : ∀ y ∈ x.toList, ∀ t, g t y = f t y) : zex g d x = zex f d x := by
 cases x with
 | none => rfl
 | some y => unfold zex; simp only; rw [h y (by simp) 0]
theorem zr2 {f g : TypeId -> Operand -> V} {op : Op} (h : ∀ y ∈ zgm op, ∀ t, g t y = f t y) : vop P g op = vop P f op := by
 unfold vop
 split
 ·split
  ·rename_i hl; rw [h _ (by simp [zgm, hl]) 0, h _ (by simp [zgm, hl]) 0]
  ·rfl
 ·split
  ·rename_i hl; rw [h _ (by simp [zgm, hl]) 0, h _ (by simp [zgm, hl]) 0]
  ·rfl
 ·rename_i t x low high
  rw [h x (by simp [zgm]) t]
  unfold ziu
  have hl : ∀ d, zex g d low = zex f d low := fun d => zjr fun y hy t => h y (by simp only [zgm]; simp [hy]) t
  have hh : ∀ d, zex g d high = zex f d high := fun d => zjr fun y hy t => h y (by simp only [zgm]; simp [hy]) t
  simp only [hl, hh]
 ·rfl
theorem zoc {o : Oper} (σ : St) (h : zf4 o.op = true) : zkk P o σ = [] := by
 unfold zkk
 split
 ·rename_i ho; rw [ho] at h; cases h
 ·rename_i ho; rw [ho] at h; cases h
 ·rename_i ho; rw [ho] at h; cases h
 ·rfl
theorem st_loc {o : Oper} {σ σ' : St} {p : Prop} (h : st P o σ = some (p, σ')) (hp : p) : zit P o (stR P o σ) (stW P o σ) σ σ' := by
 by_cases hv : zf4 o.op = true
 ·unfold st at h
  rw [if_pos hv] at h
  unfold St.outV at h
  obtain ⟨x, hx, h⟩ := Option.map_eq_some_iff.1 h
  simp only [Prod.mk.injEq] at h
  obtain ⟨rfl, rfl⟩ := h
  have hW : stW P o σ = dK o.dst := by unfold stW; rw [zoc σ hv]; simp
  refine ⟨zbk (zj9 _) (znl _ _), zbk (zc1 _) (zng _ _), fun k _ hk => ?_, fun σ1 h1 => ?_⟩
  ·rw [hW] at hk; exact zdg hk
  ·rw [hW, zd7]
   have e : vop P (σ1.get P) o.op = vop P (σ.get P) o.op := zr2 fun y hy t => zcv (fun k hk => h1 k (by unfold stR; simp [hk])) hy t
   exact zg9 (e.trans hx) hp
 ·unfold st at h
  rw [if_neg hv] at h
  exact zrt h hp
theorem zit.loc {ops : Array Oper} {o : Oper} {R W : List Ky} {σ σ' : St} (hg : o.guard = none) (h : zit P o R W σ σ') : Loc P ops o R W σ σ' :=
 ⟨h.1, h.2.1, h.2.2.1, fun σ1 h1 n0 N g a w hR hn hd => by
  have : Region.wanted o (yielded ops a.tmps) = true := by simp [Region.wanted, hg]
  rw [if_pos this]
  exact h.2.2.2 σ1 h1 n0 N g a w hR hn hd⟩
theorem zgs {ops : Array Oper} {o : Oper} {n0 : Nat -> Prop} {N : Nat} {σ : St} {g : Gh} {a : Act} {w : World} (hR : Rel n0 N σ g a w) {j d : Nat} {want c : Bool} (hg : o.guard = some (j, want)) (hd : (ops[j]?).bind (·.dst) = some d) (hc : σ.sl d = .one (.t (.bool c))) : Region.wanted o (yielded ops a.tmps) = (c == want) := by
 have hv := hR.slots d
 rw [hc] at hv
 simp only [VR, CR, zah] at hv
 have hy : yielded ops a.tmps j = some c := by
  unfold yielded
  rw [hd]
  simp only [Option.bind_some]
  cases ht : a.tmps[d]? with
  | none => rw [Array.getD_eq_getD_getElem?, ht] at hv; exact absurd hv (g.R0.nb _ _)
  | some u => rw [Array.getD_eq_getD_getElem?, ht] at hv; simp only [Option.getD_some] at hv; subst hv; rfl
 unfold Region.wanted
 rw [hg]
 simp only [hy]
 cases c <;> cases want <;> rfl
theorem zit.run {ops : Array Oper} {o : Oper} {R W : List Ky} {σ σ' : St} {j d : Nat} {want : Bool} (hg : o.guard = some (j, want)) (hd : (ops[j]?).bind (·.dst) = some d) (hc : σ.sl d = .one (.t (.bool want))) (h : zit P { o with guard := none } R W σ σ') : Loc P ops o ((0, d) :: R) W σ σ' := by
 refine ⟨h.1, ?_, h.2.2.1, fun σ1 h1 n0 N g a w hR hn hdn => ?_⟩
 ·have := h.2.1; unfold okK at *; simpa using this
 ·have hc1 : σ1.sl d = .one (.t (.bool want)) := (show σ.sl d = σ1.sl d from h1 (0, d) (by simp)) ▸ hc
  rw [zgs hR hg hd hc1, beq_self_eq_true, if_pos rfl]
  exact h.2.2.2 σ1 (fun k hk => h1 k (by simp [hk])) n0 N g a w hR hn hdn
theorem Loc.skip {ops : Array Oper} {o : Oper} {σ : St} {j d : Nat} {want : Bool} (hg : o.guard = some (j, want)) (hd : (ops[j]?).bind (·.dst) = some d) (hc : σ.sl d = .one (.t (.bool !want))) : Loc P ops o [(0, d)] (dK o.dst) σ (σ.put o.dst (.tup [])) := by
 refine ⟨zj9 _, rfl, fun k _ hk => zdg hk, fun σ1 h1 n0 N g a w hR hn hdn => ?_⟩
 have hc1 : σ1.sl d = .one (.t (.bool !want)) := (show σ.sl d = σ1.sl d from h1 (0, d) (by simp)) ▸ hc
 rw [zgs hR hg hd hc1, show ((!want) == want) = false by cases want <;> rfl]
 simp only [Bool.false_eq_true, if_false]
 rw [zd7]
 exact ⟨g, hR.put _ (x := .tup []) ⟨[], rfl, rfl⟩ hdn, rfl, rfl⟩
theorem Loc.skipT {ops : Array Oper} {o : Oper} {σ : St} {j d : Nat} {want : Bool} {xs : List (Bool × List C)} (hg : o.guard = some (j, want)) (hd : (ops[j]?).bind (·.dst) = some d) (hc : σ.sl d = .tup xs) : Loc P ops o [(0, d)] (dK o.dst) σ (σ.put o.dst (.tup [])) := by
 refine ⟨zj9 _, rfl, fun k _ hk => zdg hk, fun σ1 h1 n0 N g a w hR hn hdn => ?_⟩
 have hc1 : σ1.sl d = .tup xs := (show σ.sl d = σ1.sl d from h1 (0, d) (by simp)) ▸ hc
 have hv := hR.slots d
 rw [hc1] at hv
 obtain ⟨vs, hv, _⟩ := hv
 have hy : yielded ops a.tmps j = none := by
  unfold yielded
  rw [hd]
  simp only [Option.bind_some]
  cases ht : a.tmps[d]? with
  | none => rfl
  | some u => rw [Array.getD_eq_getD_getElem?, ht] at hv; simp only [Option.getD_some] at hv; subst hv; rfl
 have hw : Region.wanted o (yielded ops a.tmps) = false := by
  unfold Region.wanted
  rw [hg]
  simp only [hy]
  rfl
 rw [hw]
 simp only [Bool.false_eq_true, if_false]
 rw [zd7]
 exact ⟨g, hR.put _ (x := .tup []) ⟨[], rfl, rfl⟩ hdn, rfl, rfl⟩
def zc6 (P : Program) (o : Oper) (σ : St) (K : List Ky -> List Ky -> St -> Prop) : Prop :=
 if zj1 P o σ = true then ∃ R W σ', zit P o R W σ σ' /\ K R W σ' else match st P o σ with
 | some (p, σ') => p /\ K (stR P o σ) (stW P o σ) σ'
 | none => False
def drwG (P : Program) (ops : Array Oper) (o : Oper) (σ : St) (K : List Ky -> List Ky -> St -> Prop) : Prop :=
 match o.guard with
 | none => zc6 P o σ K
 | some (j, want) => match (ops[j]?).bind (·.dst) with
  | some d => match σ.sl d with
   | .one (.t (.bool c)) => (c = want -> zc6 P { o with guard := none } (σ.put (some d) (.one (.t (.bool want)))) fun R W σ' => K ((0, d) :: R) W σ') /\ (c = !want -> K [(0, d)] (dK o.dst) ((σ.put (some d) (.one (.t (.bool !want)))).put o.dst (.tup [])))
   | .tup _ => K [(0, d)] (dK o.dst) (σ.put o.dst (.tup []))
   | _ => False
  | none => False
def zev (P : Program) (ops : Array Oper) : List Oper -> List (List Ky × List Ky) -> St -> (St -> Prop) -> Prop
 | [], L, σ, K => zmh ops L = true /\ K σ
 | o :: os, L, σ, K => drwG P ops o σ fun R W σ' => zev P ops os (L ++ [(R, W)]) σ' K
theorem zdr {o : Oper} {σ : St} {K : List Ky -> List Ky -> St -> Prop} (h : zc6 P o σ K) : ∃ R W σ', zit P o R W σ σ' /\ K R W σ' := by
 unfold zc6 at h
 split at h
 ·exact h
 ·split at h
  ·rename_i p σ' hst; exact ⟨_, _, _, st_loc hst h.1, h.2⟩
  ·exact h.elim
theorem zjz {ops : Array Oper} {o : Oper} {σ : St} {K : List Ky -> List Ky -> St -> Prop} (h : drwG P ops o σ K) : ∃ R W σ', Loc P ops o R W σ σ' /\ K R W σ' := by
 unfold drwG at h
 split at h
 ·rename_i hg
  obtain ⟨R, W, σ', h1, h2⟩ := zdr h
  exact ⟨R, W, σ', h1.loc hg, h2⟩
 ·rename_i j want hg
  split at h
  ·rename_i d hd
   split at h
   ·rename_i c hc
    by_cases hcw : c = want
    ·subst hcw
     obtain ⟨R, W, σ', h1, h2⟩ := zdr (h.1 rfl)
     rw [zd5 hc] at h1
     exact ⟨_, W, σ', h1.run hg hd hc, h2⟩
    ·have hnot : c = !want := by cases c <;> cases want <;> simp_all
     subst hnot
     have hh := h.2 rfl
     rw [zd5 hc] at hh
     exact ⟨_, _, _, Loc.skip hg hd hc, hh⟩
   ·rename_i xs hc
    exact ⟨_, _, _, Loc.skipT hg hd hc, h⟩
   ·exact h.elim
  ·exact h.elim
theorem zdn {ops : Array Oper} {K : St -> Prop} : ∀ (os : List Oper) (i : Nat) (L : List (List Ky × List Ky)) (σs : Nat -> St), os = ops.toList.drop i -> i <= ops.size -> L.length = i →
  (∀ j (h : j < ops.size), j < i -> Loc P ops ops[j] (L.getD j ([], [])).1 (L.getD j ([], [])).2 (σs j) (σs (j + 1))) -> zev P ops os L (σs i) K →
  ∃ (L' : List (List Ky × List Ky)) (σs' : Nat -> St), σs' 0 = σs 0 /\ (∀ j (h : j < ops.size), Loc P ops ops[j] (L'.getD j ([], [])).1 (L'.getD j ([], [])).2 (σs' j) (σs' (j + 1))) /\ zmh ops L' = true /\ K (σs' ops.size)
 | [], i, L, σs, ho, hi, hl, hloc, h => by
  have hle : ops.size <= i := by
   have := congrArg List.length ho
   simp at this; omega
  have hie : i = ops.size := by omega
  subst hie
  exact ⟨L, σs, rfl, fun j hj => hloc j hj hj, h.1, h.2⟩
 | o :: os, i, L, σs, ho, hi, hl, hloc, h => by
  have hlt : i < ops.size := by
   have := congrArg List.length ho
   simp at this; omega
  have hcons : ops.toList.drop i = ops[i] :: ops.toList.drop (i + 1) := by
   rw [List.drop_eq_getElem_cons (by simpa using hlt)]; rfl
  rw [hcons] at ho
  obtain ⟨rfl, hos⟩ := List.cons.inj ho
  obtain ⟨R, W, σ', h1, h2⟩ := zjz h
  have := zdn os (i + 1) (L ++ [(R, W)]) (fun j => if j <= i then σs j else σ') hos (by omega) (by simp [hl]) (fun j hj hji => by
   by_cases hje : j = i
   ·subst hje
    have hg : (L ++ [(R, W)]).getD j ([], []) = (R, W) := by simp [List.getD, <- hl]
    rw [hg, if_pos (Nat.le_refl _), if_neg (by omega)]
    exact h1
   ·have hg : (L ++ [(R, W)]).getD j ([], []) = L.getD j ([], []) := by
     simp only [List.getD_eq_getElem?_getD]; rw [List.getElem?_append_left (by omega)]
    rw [hg, if_pos (by omega), if_pos (by omega)]
    exact hloc j hj (by omega)) (by rw [if_neg (by omega)]; exact h2)
  simpa using this
theorem zid {id : Nat} {ops : Array Oper} {σ : St} {K : St -> Prop} (hm : P.follows .mixedOrders = true) (h : zev P ops ops.toList [] σ K) : zdm P id ops σ K := by
 intro n0 N g a w hR hn hd
 obtain ⟨L, σs, h0, hloc, hord, hK⟩ := zdn ops.toList 0 [] (fun _ => σ) rfl (Nat.zero_le _) rfl (fun j _ hj => by omega) h
 refine wp_region_any hm ?_
 have hb : Below w.heap.size w { w with drawn := w.drawn + 1 } := ⟨rfl, rfl, rfl, Nat.le_refl _, fun _ _ => rfl⟩
 have hR' : Rel n0 N (σs 0) g a { w with drawn := w.drawn + 1 } := by
  rw [h0]
  exact hR.after hn hb (New.refl σ g (w.heap.size <= ·) _ hR.slc)
 have hF : Fp σs (fun i => L.getD i ([], [])) (fun i => (Array.replicate ops.size false).getD i false) ops.size = σs 0 := by
  have hp : ∀ i, (Array.replicate ops.size false).getD i false = false := fun i => by
   simp only [Array.getD_eq_getD_getElem?, Array.getElem?_replicate]; split <;> rfl
  have : ∀ m, Fp σs (fun i => L.getD i ([], [])) (fun i => (Array.replicate ops.size false).getD i false) m = σs 0 := by
   intro m
   induction m with
   | zero => rfl
   | succ m ih => unfold Fp; rw [hp, if_neg (by simp)]; exact ih
  exact this _
 have hcnt : cnt (fun i => (Array.replicate ops.size false).getD i false) ops.size = ops.size := by
  have hp : ∀ i, (Array.replicate ops.size false).getD i false = false := fun i => by
   simp only [Array.getD_eq_getD_getElem?, Array.getElem?_replicate]; split <;> rfl
  have : ∀ m, cnt (fun i => (Array.replicate ops.size false).getD i false) m = m := by
   intro m
   induction m with
   | zero => rfl
   | succ m ih => unfold cnt; rw [hp, if_neg (by simp), ih]; omega
  exact this _
 refine znu (w0 := w) (A0 := (g.A0, g.R0)) hloc hord hd (fun g' a' w' k1 k2 k3 k4 => ⟨rfl, _, g', hK, k1, k2, k3, (Prod.mk.inj k4).1, (Prod.mk.inj k4).2⟩) ops.size _ g a _ (by simp) hcnt (fun j h hl => ?_) (by rw [hF]; exact hR') (hn.mono (Nat.le_refl _)) (Bk.of_below hb hn) rfl
 simp only [Array.getD_eq_getD_getElem?, Array.getElem?_replicate] at hl
 split at hl <;> cases hl
end Go.Proofs.Yteeaofpphmhjdaa
namespace Go.Proofs.Yteeaofpphmhjdaa
set_option linter.unusedSimpArgs false
set_option linter.unusedVariables false
set_option linter.unusedSectionVars false
set_option maxRecDepth 4000
open Go.RowKit
variable {P : Program}
def zji : List (Nat × Ev) -> (Nat -> Option Ev) -> (Nat -> Option Ev)
 | [], f => f
 | (e, x) :: l, f => upd (zji l f) e (some x)
def eK : List (Nat × Ev) -> List Ky
 | [] => []
 | (e, _) :: l => (2, e) :: eK l
theorem zjl : ∀ (a b : List (Nat × Ev)) (f : Nat -> Option Ev), zji (a ++ b) f = zji a (zji b f)
 | [], _, _ => rfl
 | (e, x) :: a, b, f => by simp only [List.cons_append, zji, zjl a b f]
theorem zp6 : ∀ l, okK (eK l) = true
 | [] => rfl
 | (e, x) :: l => by have := zp6 l; unfold okK at *; simpa [eK] using this
theorem zl8 {n e : Nat} : ∀ {l : List (Nat × Ev)}, (n, e) ∈ eK l -> n = 2
 | [], h => by simp [eK] at h
 | (e', x) :: l, h => by
  simp only [eK, List.mem_cons, Prod.mk.injEq] at h
  rcases h with h | h
  ·exact h.1
  ·exact zl8 h
theorem zmk : ∀ {l : List (Nat × Ev)} (f f' : Nat -> Option Ev) {e : Nat}, (2, e) ∈ eK l -> zji l f e = zji l f' e
 | [], f, f', e, h => by simp [eK] at h
 | (e', x) :: l, f, f', e, h => by
  unfold zji
  by_cases he : e = e'
  ·subst he; rw [zac, zac]
  ·rw [zae _ _ he, zae _ _ he]
   simp only [eK, List.mem_cons, Prod.mk.injEq] at h
   exact zmk f f' (h.resolve_left fun hh => he hh.2)
theorem zf7 : ∀ {l : List (Nat × Ev)} (f : Nat -> Option Ev) {e : Nat}, (2, e) ∉ eK l -> zji l f e = f e
 | [], f, e, h => rfl
 | (e', x) :: l, f, e, h => by
  simp only [eK, List.mem_cons, Prod.mk.injEq, true_and, not_or] at h
  unfold zji
  rw [zae _ _ h.1, zf7 f h.2]
def St.upE (σ : St) (l : List (Nat × Ev)) : St := { σ with ev := zji l σ.ev }
theorem zit.of {o : Oper} {σ : St} {R : List Ky} {l : List (Nat × Ev)} {v : V} (hR : okK R = true) (h : ∀ σ1, (∀ k ∈ R, zas σ σ1 k) -> zab P o σ1 ((σ1.upE l).put o.dst v)) : zit P o R (dK o.dst ++ eK l) σ ((σ.upE l).put o.dst v) := by
 refine ⟨zbk (zj9 _) (zp6 _), hR, fun k hk3 hk => ?_, fun σ1 h1 => ?_⟩
 ·simp only [List.mem_append, not_or] at hk
  refine zas.trans ?_ (zdg hk.1)
  obtain ⟨n, i⟩ := k
  match n, hk3 with
  | 0, _ => rfl
  | 1, _ => rfl
  | 2, _ => exact (zf7 σ.ev hk.2).symm
 ·have : zja σ1 (dK o.dst ++ eK l) ((σ.upE l).put o.dst v) = (σ1.upE l).put o.dst v := by
   refine zas.all3 fun c i hc => ?_
   by_cases hin : (c, i) ∈ dK o.dst ++ eK l
   ·refine (zdk (zbk (zj9 _) (zp6 _)) hin).trans ?_
    match c, hc with
    | 0, _ =>
     rcases List.mem_append.1 hin with h | h
     ·cases hd : o.dst with
      | none => rw [hd] at h; simp [dK] at h
      | some d =>
       rw [hd] at h
       simp only [dK, List.mem_cons, List.not_mem_nil, or_false, Prod.mk.injEq, true_and] at h
       subst h
       show upd _ _ _ _ = upd _ _ _ _
       rw [zac, zac]
     ·have := zl8 h; omega
    | 1, _ =>
     rcases List.mem_append.1 hin with h | h
     ·cases hd : o.dst with
      | none => rw [hd] at h; simp [dK] at h
      | some d => rw [hd] at h; simp [dK] at h
     ·have := zl8 h; omega
    | 2, _ =>
     rcases List.mem_append.1 hin with h | h
     ·cases hd : o.dst with
      | none => rw [hd] at h; simp [dK] at h
      | some d => rw [hd] at h; simp [dK] at h
     ·cases o.dst <;> exact zmk _ _ h
   ·refine (zbl hc hin).trans ?_
    simp only [List.mem_append, not_or] at hin
    refine zas.trans ?_ (zdg hin.1)
    match c, hc with
    | 0, _ => rfl
    | 1, _ => rfl
    | 2, _ => exact (zf7 σ1.ev hin.2).symm
  rw [this]
  exact h σ1 h1
def exd (P : Program) (ops : Array Oper) (os : List Oper) (L : List (List Ky × List Ky)) (ks : List Fr) (Q : Exit -> St -> Prop) (σ : St) : Prop := zev P ops os L σ (znk P ks Q .normal)
theorem drawn {i : Nat} {ops : Array Oper} {ks : List Fr} {Q : Exit -> St -> Prop} {σ : St} (hm : P.follows .mixedOrders = true) (h : exd P ops ops.toList [] ks Q σ) : ex P (.region i ops true) ks Q σ := zid hm h
theorem exd_of {ops : Array Oper} {o : Oper} {os : List Oper} {L : List (List Ky × List Ky)} {ks : List Fr} {Q : Exit -> St -> Prop} {σ σ' : St} {R W : List Ky} (hg : o.guard = none) (hs : zqi o.op = true) (h : zit P o R W σ σ') (k : exd P ops os (L ++ [(R, W)]) ks Q σ') : exd P ops (o :: os) L ks Q σ := by
 unfold exd zev drwG
 rw [hg]
 simp only
 unfold zc6 zj1
 rw [if_pos (by rw [hs]; rfl)]
 exact ⟨R, W, σ', h, k⟩
section
variable (ks : List Fr) (Q : Exit -> St -> Prop) (σ : St) (ops : Array Oper) (os : List Oper) (L : List (List Ky × List Ky)) (d : Option Nat) (ty : TypeId) (ps : String) (af : Array Edge)
theorem zrw : exd P ops [] L ks Q σ = (zmh ops L = true /\ rt P .normal ks Q σ) := rfl
theorem zcc {o : Oper} (hg : o.guard = none) (hs : zj1 P o σ = false) : exd P ops (o :: os) L ks Q σ = thn (st P o σ) (fun σ' => exd P ops os (L ++ [(stR P o σ, stW P o σ)]) ks Q σ') := by
 unfold exd
 rw [zev]
 unfold drwG
 rw [hg]
 simp only
 unfold zc6
 rw [if_neg (by rw [hs]; simp)]
 rfl
theorem zo8 (x : Operand) : exd P ops (⟨d, .move x, ty, ps, af, none⟩ :: os) L ks Q σ = exd P ops os (L ++ [(zaq [x], dK d)]) ks Q (σ.put d (σ.get P ty x)) := by
 rw [zcc _ _ _ _ _ _ rfl rfl]
 simp [st, st0, zf4, St.out, thn, stR, stW, zmt, zkk, zgm]
theorem zj7 (x : Operand) : exd P ops (⟨d, .assign x, ty, ps, af, none⟩ :: os) L ks Q σ = exd P ops os (L ++ [(zaq [x], dK d)]) ks Q (σ.put d (σ.get P ty x)) := by
 rw [zcc _ _ _ _ _ _ rfl rfl]
 simp [st, st0, zf4, St.out, thn, stR, stW, zmt, zkk, zgm]
theorem zpq (t : TypeId) (x : Operand) : exd P ops (⟨d, .load t x, ty, ps, af, none⟩ :: os) L ks Q σ = thn (st P ⟨d, .load t x, ty, ps, af, none⟩ σ) (exd P ops os (L ++ [(zaq [x] ++ vK (σ.get P 0 x), dK d ++ [])]) ks Q) := zcc _ _ _ _ _ _ rfl rfl
theorem zm9 (op : BinOp) (t t' : TypeId) (x y : Operand) : exd P ops (⟨d, .binOp op t x y t', ty, ps, af, none⟩ :: os) L ks Q σ = thn (st P ⟨d, .binOp op t x y t', ty, ps, af, none⟩ σ) (exd P ops os (L ++ [(zaq [x, y] ++ [], dK d ++ [])]) ks Q) := zcc _ _ _ _ _ _ rfl rfl
theorem zom (op : UnOp) (t : TypeId) (x : Operand) : exd P ops (⟨d, .unOp op t x, ty, ps, af, none⟩ :: os) L ks Q σ = thn (st P ⟨d, .unOp op t x, ty, ps, af, none⟩ σ) (exd P ops os (L ++ [(zaq [x] ++ [], dK d ++ [])]) ks Q) := zcc _ _ _ _ _ _ rfl rfl
theorem zfv (t : TypeId) (x i : Operand) : exd P ops (⟨d, .indexAddr t x i, ty, ps, af, none⟩ :: os) L ks Q σ = thn (st P ⟨d, .indexAddr t x i, ty, ps, af, none⟩ σ) (exd P ops os (L ++ [(zaq [x, i] ++ vK (σ.get P t x), dK d ++ [])]) ks Q) := zcc _ _ _ _ _ _ rfl rfl
theorem zru (asx : Array Operand) (ts : Array TypeId) : exd P ops (⟨d, .call ⟨.builtin .len, asx, ts⟩, ty, ps, af, none⟩ :: os) L ks Q σ = thn (st P ⟨d, .call ⟨.builtin .len, asx, ts⟩, ty, ps, af, none⟩ σ) (exd P ops os (L ++ [(zaq asx.toList ++ lenK (σ.get P) asx.toList ts.toList, dK d ++ [])]) ks Q) := zcc _ _ _ _ _ _ rfl rfl
theorem zfq (t : TypeId) (x : Operand) (i : Nat) : exd P ops (⟨d, .fieldAddr t x i, ty, ps, af, none⟩ :: os) L ks Q σ = thn (st P ⟨d, .fieldAddr t x i, ty, ps, af, none⟩ σ) (exd P ops os (L ++ [(zaq [x] ++ [], dK d ++ [])]) ks Q) := zcc _ _ _ _ _ _ rfl rfl
theorem zhp (x : Operand) : exd P ops (⟨d, .nilCheck x, ty, ps, af, none⟩ :: os) L ks Q σ = thn (st P ⟨d, .nilCheck x, ty, ps, af, none⟩ σ) (exd P ops os (L ++ [(zaq [x] ++ [], dK d ++ [])]) ks Q) := zcc _ _ _ _ _ _ rfl rfl
theorem zh0 (s t : TypeId) (x : Operand) : exd P ops (⟨d, .convert s t x, ty, ps, af, none⟩ :: os) L ks Q σ = thn (st P ⟨d, .convert s t x, ty, ps, af, none⟩ σ) (exd P ops os (L ++ [(zaq [x] ++ vK (σ.get P s x), dK d ++ [])]) ks Q) := zcc _ _ _ _ _ _ rfl rfl
theorem zoa (c x y : Operand) : exd P ops (⟨d, .pick c x y, ty, ps, af, none⟩ :: os) L ks Q σ = thn (st P ⟨d, .pick c x y, ty, ps, af, none⟩ σ) (exd P ops os (L ++ [(zaq [c, x, y] ++ [], dK d ++ [])]) ks Q) := zcc _ _ _ _ _ _ rfl rfl
def zis (P : Program) (ops : Array Oper) (o : Oper) (os : List Oper) (L : List (List Ky × List Ky)) (gR : List Ky) (ks : List Fr) (Q : Exit -> St -> Prop) (σ : St) : Prop := zc6 P o σ fun R W σ' => exd P ops os (L ++ [(gR ++ R, W)]) ks Q σ'
def gdd (P : Program) (ops : Array Oper) (os : List Oper) (L : List (List Ky × List Ky)) (ks : List Fr) (Q : Exit -> St -> Prop) (σ : St) (o : Oper) (c : Nat) (v : V) (want : Bool) : Prop :=
 match v with
 | .one (.t (.bool b)) => (b = want -> zis P ops o os L [(0, c)] ks Q (σ.put (some c) (.one (.t (.bool want))))) /\ (b = !want -> exd P ops os (L ++ [([(0, c)], dK o.dst)]) ks Q ((σ.put (some c) (.one (.t (.bool !want)))).put o.dst (.tup [])))
 | .tup _ => exd P ops os (L ++ [([(0, c)], dK o.dst)]) ks Q (σ.put o.dst (.tup []))
 | _ => False
theorem zc9 (o : Oper) (c : Nat) (b want : Bool) : gdd P ops os L ks Q σ o c (.one (.t (.bool b))) want = ((b = want -> zis P ops o os L [(0, c)] ks Q (σ.put (some c) (.one (.t (.bool want))))) /\ (b = !want -> exd P ops os (L ++ [([(0, c)], dK o.dst)]) ks Q ((σ.put (some c) (.one (.t (.bool !want)))).put o.dst (.tup [])))) := rfl
theorem zre (o : Oper) (c : Nat) (xs : List (Bool × List C)) (want : Bool) : gdd P ops os L ks Q σ o c (.tup xs) want = exd P ops os (L ++ [([(0, c)], dK o.dst)]) ks Q (σ.put o.dst (.tup [])) := rfl
theorem zel {o : Oper} {gR : List Ky} (hs : zj1 P o σ = false) : zis P ops o os L gR ks Q σ = thn (st P o σ) (fun σ' => exd P ops os (L ++ [(gR ++ stR P o σ, stW P o σ)]) ks Q σ') := by
 unfold zis zc6
 rw [if_neg (by rw [hs]; simp)]
 rfl
theorem zrn {o : Oper} {gR R W : List Ky} {σ' : St} (hs : zqi o.op = true) (h : zit P o R W σ σ') (k : exd P ops os (L ++ [(gR ++ R, W)]) ks Q σ') : zis P ops o os L gR ks Q σ := by
 unfold zis zc6 zj1
 rw [if_pos (by rw [hs]; rfl)]
 exact ⟨R, W, σ', h, k⟩
theorem zlp (gR : List Ky) (x : Operand) : zis P ops ⟨d, .move x, ty, ps, af, none⟩ os L gR ks Q σ = exd P ops os (L ++ [(gR ++ (zaq [x]), dK d)]) ks Q (σ.put d (σ.get P ty x)) := by
 rw [zel _ _ _ _ _ _ rfl]
 simp [st, st0, zf4, St.out, thn, stR, stW, zmt, zkk, zgm]
theorem zkn (gR : List Ky) (t : TypeId) (x : Operand) : zis P ops ⟨d, .load t x, ty, ps, af, none⟩ os L gR ks Q σ = thn (st P ⟨d, .load t x, ty, ps, af, none⟩ σ) (exd P ops os (L ++ [(gR ++ (zaq [x] ++ vK (σ.get P 0 x)), dK d ++ [])]) ks Q) := zel _ _ _ _ _ _ rfl
theorem zkg (gR : List Ky) (op : BinOp) (t t' : TypeId) (x y : Operand) : zis P ops ⟨d, .binOp op t x y t', ty, ps, af, none⟩ os L gR ks Q σ = thn (st P ⟨d, .binOp op t x y t', ty, ps, af, none⟩ σ) (exd P ops os (L ++ [(gR ++ (zaq [x, y] ++ []), dK d ++ [])]) ks Q) := zel _ _ _ _ _ _ rfl
theorem ze4 (gR : List Ky) (t : TypeId) (x i : Operand) : zis P ops ⟨d, .indexAddr t x i, ty, ps, af, none⟩ os L gR ks Q σ = thn (st P ⟨d, .indexAddr t x i, ty, ps, af, none⟩ σ) (exd P ops os (L ++ [(gR ++ (zaq [x, i] ++ vK (σ.get P t x)), dK d ++ [])]) ks Q) := zel _ _ _ _ _ _ rfl
theorem zkq (gR : List Ky) (c x y : Operand) : zis P ops ⟨d, .pick c x y, ty, ps, af, none⟩ os L gR ks Q σ = thn (st P ⟨d, .pick c x y, ty, ps, af, none⟩ σ) (exd P ops os (L ++ [(gR ++ (zaq [c, x, y] ++ []), dK d ++ [])]) ks Q) := zel _ _ _ _ _ _ rfl
theorem gdd_tt (o : Oper) (c : Nat) : gdd P ops os L ks Q σ o c (.one (.t (.bool true))) true = zis P ops o os L [(0, c)] ks Q (σ.put (some c) (.one (.t (.bool true)))) := by
 rw [zc9]; simp
theorem gdd_ff (o : Oper) (c : Nat) : gdd P ops os L ks Q σ o c (.one (.t (.bool false))) false = zis P ops o os L [(0, c)] ks Q (σ.put (some c) (.one (.t (.bool false)))) := by
 rw [zc9]; simp
theorem gdd_tf (o : Oper) (c : Nat) : gdd P ops os L ks Q σ o c (.one (.t (.bool true))) false = exd P ops os (L ++ [([(0, c)], dK o.dst)]) ks Q ((σ.put (some c) (.one (.t (.bool true)))).put o.dst (.tup [])) := by
 rw [zc9]; simp
theorem gdd_ft (o : Oper) (c : Nat) : gdd P ops os L ks Q σ o c (.one (.t (.bool false))) true = exd P ops os (L ++ [([(0, c)], dK o.dst)]) ks Q ((σ.put (some c) (.one (.t (.bool false)))).put o.dst (.tup [])) := by
 rw [zc9]; simp
theorem znc (op : Op) (j : Nat) (want : Bool) : exd P ops (⟨d, op, ty, ps, af, some (j, want)⟩ :: os) L ks Q σ = zao ((ops[j]?).bind (·.dst)) fun c => gdd P ops os L ks Q σ ⟨d, op, ty, ps, af, none⟩ c (σ.sl c) want := by
  unfold exd zev drwG
  simp only
  unfold zao
  split
  · rename_i c hc
    simp only [hc]
    unfold gdd
    split
    · rename_i b hb; first | (rw [hb]; rfl) | rfl
    · rename_i b hb; first | (rw [hb]; rfl) | rfl
    · rename_i hb hb2
      first
        | rfl
        | (split
           · exact absurd ‹_› (hb _)
           · exact absurd ‹_› (hb2 _)
           · rfl)
  · rename_i hc; simp only [hc]
end
theorem zj6 : zaq [] = [] := rfl
theorem zj3 (t : Nat) (l : List Operand) : zaq (.tmp t :: l) = (0, t) :: zaq l := rfl
theorem zg8 (v : Value) (l : List Operand) : zaq (.const v :: l) = zaq l := rfl
theorem zh7 (f : FuncId) (l : List Operand) : zaq (.func f :: l) = zaq l := rfl
attribute [go_sem ↓] zrw zo8 zj7 zpq zm9 zom zfv zru zfq zhp zh0 zoa znc zlp zkn zkg ze4 zkq
attribute [go_sem] Option.toList_none Option.toList_some zc9 zre zj6 zj3 zg8 zh7 dK bK vK lenK
theorem gdd_cg {P : Program} {ops : Array Oper} {os : List Oper} {L : List (List Ky × List Ky)} {ks : List Fr} {Q : Exit -> St -> Prop} {σ : St} {o : Oper} {c : Nat} {v v' : V} {want : Bool} (h : v = v') : gdd P ops os L ks Q σ o c v want = gdd P ops os L ks Q σ o c v' want := h ▸ rfl
attribute [go_sem high] gdd_tt gdd_ff gdd_tf gdd_ft
attribute [congr] gdd_cg
end Go.Proofs.Yteeaofpphmhjdaa
namespace Go.Proofs.Yteeaofpphmhjdaa
set_option linter.unusedSimpArgs false
set_option linter.unusedVariables false
set_option linter.unusedSectionVars false
set_option maxRecDepth 4000
open Go.RowKit
variable {P : Program}
def c0K : C -> List Ky
 | .ow e _ => [(2, e)]
 | _ => []
def zqu : List C -> List Ky
 | [] => []
 | c :: cs => c0K c ++ zqu cs
def bxK (σ : St) (b : Nat) : List Ky := (1, b) :: match σ.bx b with | some cs => zqu cs | none => []
def bsK (σ : St) : List Nat -> List Ky
 | [] => []
 | b :: bs => bxK σ b ++ bsK σ bs
def cK (σ : St) : C -> List Ky
 | .bx b _ => bxK σ b
 | .fn _ caps => bsK σ caps
 | c => c0K c
def csK (σ : St) : List C -> List Ky
 | [] => []
 | c :: cs => cK σ c ++ csK σ cs
def vsK (σ : St) : List V -> List Ky
 | [] => []
 | v :: vs => csK σ v.cells ++ vsK σ vs
theorem c0K_ok (c : C) : okK (c0K c) = true := by cases c <;> rfl
theorem zkz : ∀ cs, okK (zqu cs) = true
 | [] => rfl
 | c :: cs => zbk (c0K_ok c) (zkz cs)
theorem zqz (σ : St) (b : Nat) : okK (bxK σ b) = true := by
 have : okK (match σ.bx b with | some cs => zqu cs | none => []) = true := by
  split
  ·exact zkz _
  ·rfl
 unfold bxK okK at *
 simpa using this
theorem zqv (σ : St) : ∀ bs, okK (bsK σ bs) = true
 | [] => rfl
 | b :: bs => zbk (zqz σ b) (zqv σ bs)
theorem cK_ok (σ : St) (c : C) : okK (cK σ c) = true := by
 cases c
 case bx => exact zqz _ _
 case fn => exact zqv _ _
 all_goals rfl
theorem zqg (σ : St) : ∀ cs, okK (csK σ cs) = true
 | [] => rfl
 | c :: cs => zbk (cK_ok σ c) (zqg σ cs)
theorem zq1 (σ : St) : ∀ vs, okK (vsK σ vs) = true
 | [] => rfl
 | v :: vs => zbk (zqg σ _) (zq1 σ vs)
section
variable {σ σ1 : St}
theorem CT0.loc {c : C} {t : T} (h : CT0 σ c t) (hk : ∀ k ∈ c0K c, zas σ σ1 k) : CT0 σ1 c t := by
 cases c
 case ow e g =>
  cases t
  case sl => obtain ⟨d, o, h⟩ := h; exact ⟨d, o, (show σ.ev e = σ1.ev e from hk (2, e) (by simp [c0K])) ▸ h⟩
  all_goals exact h.elim
 all_goals (cases t <;> exact h)
theorem znz.loc : ∀ {cs : List C} {ts : List T}, znz σ cs ts -> (∀ k ∈ zqu cs, zas σ σ1 k) -> znz σ1 cs ts
 | [], _, h, _ => h
 | c :: cs, _, h, hk => by
  obtain ⟨t, ts', rfl, h1, h2⟩ := h
  exact ⟨t, ts', rfl, h1.loc fun k hh => hk k (by simp [zqu, hh]), znz.loc h2 fun k hh => hk k (by simp [zqu, hh])⟩
theorem CTb.loc {b : Nat} {t : T} (h : CTb σ b t) (hk : ∀ k ∈ bxK σ b, zas σ σ1 k) : CTb σ1 b t := by
 obtain ⟨cs, ts, h1, h2, h3⟩ := h
 refine ⟨cs, ts, (show σ.bx b = σ1.bx b from hk (1, b) (by simp [bxK])) ▸ h1, h2, h3.loc fun k hh => hk k ?_⟩
 unfold bxK
 rw [h1]
 simp [hh]
theorem CTf.loc : ∀ {bs : List Nat} {ts : List T}, CTf σ bs ts -> (∀ k ∈ bsK σ bs, zas σ σ1 k) -> CTf σ1 bs ts
 | [], _, h, _ => h
 | b :: bs, _, h, hk => by
  obtain ⟨t, ts', rfl, h1, h2⟩ := h
  exact ⟨t, ts', rfl, h1.loc fun k hh => hk k (by simp [bsK, hh]), CTf.loc h2 fun k hh => hk k (by simp [bsK, hh])⟩
theorem CT.loc {c : C} {t : T} (h : CT σ c t) (hk : ∀ k ∈ cK σ c, zas σ σ1 k) : CT σ1 c t := by
 unfold CT at h ⊢
 split at h
 ·exact h.loc hk
 ·exact ⟨h.1, h.2.loc hk⟩
 ·rename_i hn1 hn2
  cases c
  case bx b o =>
   cases o with
   | zero => exact (hn1 b rfl).elim
   | succ o => exact h
  case fn f caps =>
   cases t
   case fn g ts => exact (hn2 f caps g ts rfl rfl).elim
   all_goals exact h
  all_goals exact CT0.loc h hk
theorem CTs.loc : ∀ {cs : List C} {ts : List T}, CTs σ cs ts -> (∀ k ∈ csK σ cs, zas σ σ1 k) -> CTs σ1 cs ts
 | [], _, h, _ => h
 | c :: cs, _, h, hk => by
  obtain ⟨t, ts', rfl, h1, h2⟩ := h
  exact ⟨t, ts', rfl, h1.loc fun k hh => hk k (by simp [csK, hh]), CTs.loc h2 fun k hh => hk k (by simp [csK, hh])⟩
theorem VDs.loc : ∀ {vs : List V} {ds : List D}, VDs σ vs ds -> (∀ k ∈ vsK σ vs, zas σ σ1 k) -> VDs σ1 vs ds
 | [], _, h, _ => h
 | v :: vs, _, h, hk => by
  obtain ⟨d, ds', rfl, h1, h2⟩ := h
  refine ⟨d, ds', rfl, ?_, VDs.loc h2 fun k hh => hk k (by simp [vsK, hh])⟩
  unfold VD at h1 ⊢
  split at h1
  ·exact h1.loc fun k hh => hk k (by simp [vsK, V.cells, csK, hh])
  ·exact h1.loc fun k hh => hk k (by simp [vsK, V.cells, hh])
  ·exact h1.elim
end
def owL (d : Nat) : Nat -> List T -> List (Nat × Ev)
 | _, [] => []
 | j, .sl sz rows :: ts => owL d (j + 1) ts ++ [(d * 32 + j, ⟨true, sz, rows, 0, true⟩)]
 | j, _ :: ts => owL d (j + 1) ts
theorem zm6 (d : Nat) : ∀ (ts : List T) (j : Nat) (f : Nat -> Option Ev), owE d j ts f = zji (owL d j ts) f
 | [], _, _ => rfl
 | t :: ts, j, f => by
  unfold owE
  rw [zm6 d ts]
  cases t <;> simp only [owL, zh8, zjl, zji]
theorem zk9 : ∀ (a b : List (Nat × Ev)), eK (a ++ b) = eK a ++ eK b
 | [], _ => rfl
 | (e, x) :: a, b => by simp [eK, zk9 a b]
theorem zei {σ σ1 : St} (d : Nat) : ∀ (ts : List T) (j : Nat), ze3 d j ts σ.ev -> (∀ k ∈ eK (owL d j ts), zas σ σ1 k) -> ze3 d j ts σ1.ev
 | [], _, _, _ => trivial
 | t :: ts, j, h, hk => by
  obtain ⟨h1, h2⟩ := h
  cases t
  case sl sz rows =>
   refine ⟨?_, zei d ts (j + 1) h2 fun k hh => hk k (by simp [owL, zk9, hh])⟩
   have : σ.ev (d * 32 + j) = σ1.ev (d * 32 + j) := hk (2, d * 32 + j) (by simp [owL, zk9, eK])
   show σ1.ev (d * 32 + j) = none
   rw [<- this]; exact h1
  case pin => exact (show False from h1).elim
  all_goals exact ⟨trivial, zei d ts (j + 1) h2 fun k hh => hk k (by simpa [owL] using hh)⟩
theorem zjk (σ : St) (d : Nat) (res : List D) : σ.callF d res = (σ.upE (owL d 0 (zat res))).put (some d) (zsb (zkl d 0 res)) := by
 unfold St.callF St.upE St.put
 simp only [zm6]
theorem zo2 {σ σ1 : St} {asx : Array Operand} (ts : Array TypeId) (h : ∀ k ∈ zaq asx.toList, zas σ σ1 k) : σ1.gets P asx ts = σ.gets P asx ts := by
 unfold St.gets
 refine List.map_congr_left fun p hp => ?_
 obtain ⟨x, t⟩ := p
 exact zcv h (List.of_mem_zip hp).1 t
theorem zeu {x : Operand} {l : List Operand} {k : Ky} (h : k ∈ zaq l) : k ∈ zaq (x :: l) := by
 cases x <;> simp [zaq, h]
section
variable {o : Oper} {σ : St} {x : Operand} {asx : Array Operand} {ts : Array TypeId} {f : FuncId} {cvs : List V} {d : Nat} {ds res : List D}
theorem zho (ho : o.op = .call ⟨.value x, asx, ts⟩) (hd : o.dst = some d)
  (h : FC P f ds res) (hc : za7 (σ.get P 0 x) = some (f, cvs)) (hv : VDs σ (σ.gets P asx ts ++ cvs) ds) (hf : ze3 d 0 (zat res) σ.ev) :
  zit P o (zaq (x :: asx.toList) ++ (vsK σ (σ.gets P asx ts ++ cvs) ++ eK (owL d 0 (zat res)))) (dK (some d) ++ eK (owL d 0 (zat res))) σ (σ.callF d res) := by
 rw [zjk, <- hd]
 refine zit.of (zbk (zc1 _) (zbk (zq1 _ _) (zp6 _))) fun σ1 h1 => ?_
 rw [hd, <- zjk]
 have e1 : σ1.get P 0 x = σ.get P 0 x := zcv (l := x :: asx.toList) (fun k hk => h1 k (by simp [hk])) (by simp) 0
 have e2 : σ1.gets P asx ts = σ.gets P asx ts := zo2 ts fun k hk => h1 k (by simp [zeu hk])
 exact zg3 ho hd h (by rw [e1]; exact hc) (by rw [e2]; exact hv.loc fun k hk => h1 k (by simp [hk])) (zei d _ 0 hf fun k hk => h1 k (by simp [hk]))
end
def zq8 : Option (FuncId × List V) -> List V
 | some p => p.2
 | none => []
section
variable {ks : List Fr} {Q : Exit -> St -> Prop} {σ : St} {ops : Array Oper} {os : List Oper} {L : List (List Ky × List Ky)} {ty : TypeId} {ps : String} {af : Array Edge} {x : Operand} {asx : Array Operand} {ts : Array TypeId} {f : FuncId} {ds res : List D}
theorem zfk {d : Nat} (h : FC P f ds res) (hp : zao (za7 (σ.get P 0 x)) fun p => p.1 = f /\ VDs σ (σ.gets P asx ts ++ p.2) ds /\ ze3 d 0 (zat res) σ.ev)
  (k : exd P ops os (L ++ [(zaq (x :: asx.toList) ++ (vsK σ (σ.gets P asx ts ++ zq8 (za7 (σ.get P 0 x))) ++ eK (owL d 0 (zat res))), dK (some d) ++ eK (owL d 0 (zat res)))]) ks Q (σ.callF d res)) :
  exd P ops (⟨some d, .call ⟨.value x, asx, ts⟩, ty, ps, af, none⟩ :: os) L ks Q σ := by
 obtain ⟨⟨f', cvs⟩, h1, rfl, h2, h3⟩ := zam hp
 rw [h1] at k
 exact exd_of rfl rfl (zho rfl rfl h h1 h2 h3) k
end
attribute [go_sem] zq8
attribute [go_sem] c0K zqu bxK bsK cK csK vsK owL eK
end Go.Proofs.Yteeaofpphmhjdaa
namespace Go.Proofs.Yteeaofpphmhjdaa
set_option linter.unusedSimpArgs false
set_option linter.unusedVariables false
set_option linter.unusedSectionVars false
set_option maxRecDepth 4000
open Go.RowKit
variable {P : Program}
theorem zab.pre {o : Oper} {σ σ' σ'' : St} (h : Wk σ σ') (k : zab P o σ' σ'') : zab P o σ σ'' := fun n0 N g a w hR hn hd => by
 obtain ⟨g1, r1, r2, r3⟩ := h n0 N g a w hR
 refine zby (fun a' w' hh => ?_) (k n0 N g1 a w r1 hn hd)
 obtain ⟨g', k1, k2, k3, k4⟩ := hh
 exact ⟨g', k1, k2, k3.trans r2, k4.trans r3⟩
end Go.Proofs.Yteeaofpphmhjdaa
namespace Go.Proofs.Yteeaofpphmhjdaa
set_option linter.unusedSimpArgs false
set_option linter.unusedVariables false
set_option linter.unusedSectionVars false
set_option maxRecDepth 4000
open Go.RowKit
variable {P : Program}
theorem zhn (n : Nat) : ∀ (parts : List (Nat × Value)) (k : Nat) (cells : Array Value), (∀ (j i : Nat) v, parts[j]? = some (i, v) -> i = k + j /\ v.cells.size = n) -> (k + parts.length) * n <= cells.size →
  ∃ cells', Instr.fill (fun i => some (i * n, n)) cells parts = some cells' /\ cells'.toList = cells.toList.take (k * n) ++ (parts.flatMap fun p => p.2.cells.toList) ++ cells.toList.drop ((k + parts.length) * n)
 | [], k, cells, _, _ => ⟨cells, rfl, by simp⟩
 | (i, v) :: rest, k, cells, h, hl => by
  obtain ⟨hik, hv⟩ := h 0 i v rfl
  obtain rfl : k = i := by omega
  have hl' : (k + (rest.length + 1)) * n <= cells.size := by simpa using hl
  have e1 : (k + (rest.length + 1)) * n = k * n + n + rest.length * n := by rw [Nat.add_mul, Nat.add_mul, Nat.one_mul]; omega
  have hset := zfa cells (k * n) v.cells.toList (by simp only [Array.length_toList, hv]; omega)
  have hlen : v.cells.toList.length = n := by simpa using hv
  have hck : (cells.toList.take (k * n)).length = k * n := by simp; omega
  obtain ⟨cells', k1, k2⟩ := zhn n rest (k + 1) ((v.cells.toList.toArray.zipIdx).foldl (fun cs (c, j) => cs.setIfInBounds (k * n + j) c) cells) (fun j i u hu => by
   have := h (j + 1) i u (by simpa using hu); exact ⟨by omega, this.2⟩) (by
   have : (((v.cells.toList.toArray.zipIdx).foldl (fun cs (c, j) => cs.setIfInBounds (k * n + j) c) cells).toList).length = cells.size := by
    rw [hset]; simp only [List.length_append, List.length_take, List.length_drop, Array.length_toList, hv]; omega
   rw [Array.length_toList] at this
   rw [this, show k + 1 + rest.length = k + (rest.length + 1) by omega]; exact hl')
  refine ⟨cells', ?_, ?_⟩
  ·have hcond : ¬ (v.cells.size ≠ n || k * n + v.cells.size > cells.size) = true := by simp [hv]; omega
   simp only [Instr.fill, if_neg hcond]
   simpa using k1
  ·rw [k2, hset]
   rw [hlen]
   have e2 : (k + 1) * n = k * n + n := by rw [Nat.add_mul, Nat.one_mul]
   have e3 : (cells.toList.take (k * n) ++ v.cells.toList ++ cells.toList.drop (k * n + n)).take ((k + 1) * n) = cells.toList.take (k * n) ++ v.cells.toList := by
    rw [List.take_append_of_le_length (by rw [List.length_append, hck, hlen]; omega), List.take_of_length_le (by rw [List.length_append, hck, hlen]; omega)]
   have e4 : (cells.toList.take (k * n) ++ v.cells.toList ++ cells.toList.drop (k * n + n)).drop ((k + 1 + rest.length) * n) = cells.toList.drop ((k + (rest.length + 1)) * n) := by
    have e5 : (k + 1 + rest.length) * n = k * n + n + rest.length * n := by rw [Nat.add_mul, Nat.add_mul, Nat.one_mul]
    rw [List.drop_append, List.drop_of_length_le (by rw [List.length_append, hck, hlen]; omega), List.length_append, hck, hlen, List.drop_drop, e5, e1]
    simp only [List.nil_append]
    congr 1; omega
   rw [e3, e4]
   simp
theorem zrx (w : World) (t e : TypeId) (len : Nat) (parts : Array (Nat × Value)) (ie : TypeInfo) (z : Value) (hu : P.underlying t = some (.slice e)) (hie : P.info? e = some ie) (hz : ie.zero = some z) (hsmall : len * ie.size <= 2 ^ 24)
  (hl : parts.size = len) (h : ∀ (j i : Nat) v, parts.toList[j]? = some (i, v) -> i = j /\ v.cells.size = ie.size) :
  ∃ cells, (Instr.buildSlice t len parts).run P w = .ok (.slice (some ⟨w.heap.size, 0, none⟩) len len) (w.alloc (.cells cells e)) /\ cells.toList = parts.toList.flatMap fun p => p.2.cells.toList := by
 have hs : ¬ len * ie.size > 2 ^ 24 := by omega
 obtain ⟨cells, k1, k2⟩ := zhn ie.size parts.toList 0 ((Array.range (len * ie.size)).map ((if len * ie.size = 0 then #[] else z.cells)[· % (if len * ie.size = 0 then #[] else z.cells).size]!)) (fun j i v hj => by obtain ⟨e1, e2⟩ := h j i v hj; exact ⟨by omega, e2⟩) (by simp [hl])
 refine ⟨cells, ?_, ?_⟩
 ·by_cases h0 : len * ie.size = 0
  ·simp only [h0, if_true] at k1
   simp [Instr.buildSlice, run_underlying hu, sizeOf, typeInfo, hie, h0, newRow] at k1 ⊢
   rw [k1]
   rfl
  ·simp only [h0, if_false] at k1
   simp [Instr.buildSlice, run_underlying hu, sizeOf, typeInfo, zeroValue, hie, hz, hs, h0, k1, newRow]
 ·rw [k2]
  simp [hl]
def znj (P : Program) (el : TypeId) (n : Nat) (get : TypeId -> Operand -> V) : Nat -> List (Nat × Operand) -> Option (List (List C))
 | _, [] => some []
 | k, (i, x) :: rest => if i = k /\ (get el x).cells.length = n /\ (get el x).cells.all C.good = true /\ (get el x).isTup = false then (znj P el n get (k + 1) rest).map ((get el x).cells :: ·) else none
theorem zje {n0 : Nat -> Prop} {N : Nat} {σ : St} {g : Gh} {a : Act} {w : World} (hR : Rel n0 N σ g a w) {el : TypeId} {n : Nat} : ∀ {parts : List (Nat × Operand)} {k : Nat} {rs : List (List C)}, znj P el n (σ.get P) k parts = some rs →
  (∀ (j i : Nat) v, (parts.map fun p => (p.1, a.eval p.2))[j]? = some (i, v) -> i = k + j /\ v.cells.size = n) /\ rs.length = parts.length /\ CRs σ g w rs.flatten ((parts.map fun p => (p.1, a.eval p.2)).flatMap fun p => p.2.cells.toList) /\ ∀ r ∈ rs, r.length = n
 | [], k, rs, h => by cases h; exact ⟨by simp, rfl, rfl, by simp⟩
 | (i, x) :: rest, k, rs, h => by
  unfold znj at h
  split at h
  ·rename_i hh
   obtain ⟨h1, h2, h3, h4⟩ := hh
   obtain ⟨rs', h5, rfl⟩ := Option.map_eq_some_iff.1 h
   obtain ⟨k1, k2, k3, k4⟩ := zje hR h5
   obtain ⟨c1, c2⟩ := hR.vcells el x h3 h4
   refine ⟨fun j i' v hj => ?_, by simp [k2], ?_, fun r hr => ?_⟩
   ·cases j with
    | zero =>
     simp only [List.map_cons, List.getElem?_cons_zero, Option.some.injEq, Prod.mk.injEq] at hj
     obtain ⟨rfl, rfl⟩ := hj
     exact ⟨by omega, by rw [<- h2, <- c1.len]; simp⟩
    | succ j =>
     have := k1 j i' v (by simpa using hj)
     exact ⟨by omega, this.2⟩
   ·rw [List.flatten_cons, List.map_cons, List.flatMap_cons]
    exact c1.append k3
   ·rcases List.mem_cons.1 hr with rfl | hr
    ·exact h2
    ·exact k4 r hr
  ·cases h
def dpC (σ : St) : C -> Option (T × List (Nat × Ev))
 | .t x => if x.flat = true then some (x, []) else none
 | .nl s => some (.sl s [], [])
 | .ow e g => (σ.ev e).bind fun x => if x.gen = g /\ x.on = true /\ x.deep = true then some (.sl x.sz x.rows, [(e, x)]) else none
 | _ => none
def zob (σ : St) : List C -> Option (List T × List (Nat × Ev))
 | [] => some ([], [])
 | c :: cs => (dpC σ c).bind fun p => (zob σ cs).map fun q => (p.1 :: q.1, p.2 ++ q.2)
def dpRs (σ : St) : List (List C) -> Option (List (List T) × List (Nat × Ev))
 | [] => some ([], [])
 | r :: rs => (zob σ r).bind fun p => (dpRs σ rs).map fun q => (p.1 :: q.1, p.2 ++ q.2)
def fpL (g : Gh) (l : List (Nat × Ev)) : List Nat := l.flatMap fun p => g.φ p.1
section
variable {n0 : Nat -> Prop} {N : Nat} {σ : St} {g : Gh} {a : Act} {w : World} (hR : Rel n0 N σ g a w)
include hR
theorem zrh {c : C} {v : Value} {t : T} {l : List (Nat × Ev)} (hv : CR σ g w c v) (h : dpC σ c = some (t, l)) : zan w t v (fpL g l) /\ ∀ p ∈ l, σ.ev p.1 = some p.2 /\ p.2.on = true := by
 cases c with
 | t x =>
  simp only [dpC] at h
  split at h
  ·rename_i hf
   simp only [Option.some.injEq, Prod.mk.injEq] at h
   obtain ⟨rfl, rfl⟩ := h
   refine ⟨?_, by simp⟩
   cases x <;> simp only [T.flat, Bool.false_eq_true] at hf <;> simp only [CR, zah] at hv <;> unfold zan
   ·exact ⟨hv.1, hv.2.1, hv.2.2, rfl⟩
   ·exact ⟨hv, rfl⟩
   ·exact ⟨hv.1, hv.2, rfl⟩
   ·exact ⟨hv, rfl⟩
  ·cases h
 | nl s =>
  cases h
  refine ⟨?_, by simp⟩
  unfold zan
  exact ⟨none, 0, hv, by simp, by simp, Or.inl ⟨rfl, rfl, rfl, rfl⟩⟩
 | ow e n =>
  simp only [dpC] at h
  obtain ⟨x, hx, h'⟩ := Option.bind_eq_some_iff.1 h
  clear h
  by_cases hh : x.gen = n /\ x.on = true /\ x.deep = true
  ·rw [if_pos hh] at h'
   obtain ⟨rfl, ho, hd⟩ := hh
   cases h'
   refine ⟨?_, fun p hp => by simp only [List.mem_cons, List.not_mem_nil, or_false] at hp; subst hp; exact ⟨hx, ho⟩⟩
   have hE := hR.evs e x hx ho
   rw [hv.1]
   unfold zan
   obtain ⟨ao, cap, e1, e2, e3, e4⟩ := hE
   refine ⟨ao, cap, e1, e2, e3, ?_⟩
   simp only [fpL, List.flatMap_cons, List.flatMap_nil, List.append_nil]
   rcases e4 with e4 | ⟨b, cells, ty, fps, k1, k2, k3, k4, k5⟩
   ·exact Or.inl e4
   ·rw [if_pos hd] at k5
    exact Or.inr ⟨b, cells, ty, fps, k1, k2, k3, k4, k5⟩
  ·rw [if_neg hh] at h'; cases h'
 | bx b o => cases h
 | el cs o => cases h
 | er cs o => cases h
 | eo e s sz i o => cases h
 | fn f caps => cases h
 | cv v => cases h
 | any => cases h
 | rn x => cases h
theorem zd1 : ∀ {cs : List C} {vs : List Value} {ts : List T} {l : List (Nat × Ev)}, CRs σ g w cs vs -> zob σ cs = some (ts, l) -> zaj w ts vs (fpL g l) /\ (∀ p ∈ l, σ.ev p.1 = some p.2 /\ p.2.on = true) /\ ts.length = cs.length
 | [], vs, ts, l, hv, h => by
  cases h
  exact ⟨⟨hv, rfl⟩, by simp, rfl⟩
 | c :: cs, vs, ts, l, hv, h => by
  obtain ⟨v, vs', rfl, h1, h2⟩ := hv
  unfold zob at h
  obtain ⟨p, e1, h⟩ := Option.bind_eq_some_iff.1 h
  obtain ⟨q, e2, h⟩ := Option.map_eq_some_iff.1 h
  obtain ⟨p1, p2⟩ := p
  obtain ⟨q1, q2⟩ := q
  simp only [Prod.mk.injEq] at h
  obtain ⟨rfl, rfl⟩ := h
  obtain ⟨k1, k2⟩ := zrh hR h1 e1
  obtain ⟨j1, j2, j3⟩ := zd1 h2 e2
  refine ⟨⟨v, vs', _, _, rfl, by simp [fpL], k1, j1⟩, fun p hp => ?_, by simp [j3]⟩
  rcases List.mem_append.1 hp with hp | hp
  ·exact k2 p hp
  ·exact j2 p hp
theorem zjp : ∀ {rs : List (List C)} {vs : List Value} {rows : List (List T)} {l : List (Nat × Ev)}, CRs σ g w rs.flatten vs -> dpRs σ rs = some (rows, l) -> zaj w rows.flatten vs (fpL g l) /\ (∀ p ∈ l, σ.ev p.1 = some p.2 /\ p.2.on = true) /\ (rows.map List.length) = rs.map List.length
 | [], vs, rows, l, hv, h => by
  cases h
  exact ⟨⟨hv, rfl⟩, by simp, rfl⟩
 | r :: rs, vs, rows, l, hv, h => by
  rw [List.flatten_cons] at hv
  obtain ⟨v1, v2, rfl, h1, h2⟩ := hv.split
  unfold dpRs at h
  obtain ⟨p, e1, h⟩ := Option.bind_eq_some_iff.1 h
  obtain ⟨q, e2, h⟩ := Option.map_eq_some_iff.1 h
  obtain ⟨p1, p2⟩ := p
  obtain ⟨q1, q2⟩ := q
  simp only [Prod.mk.injEq] at h
  obtain ⟨rfl, rfl⟩ := h
  obtain ⟨k1, k2, k3⟩ := zd1 hR h1 e1
  obtain ⟨j1, j2, j3⟩ := zjp h2 e2
  refine ⟨by rw [List.flatten_cons, show fpL g (p2 ++ q2) = fpL g p2 ++ fpL g q2 by simp [fpL]]; exact k1.append j1, fun p hp => ?_, by simp [j3, k3]⟩
  rcases List.mem_append.1 hp with hp | hp
  ·exact k2 p hp
  ·exact j2 p hp
theorem zeh : ∀ {l : List (Nat × Ev)}, (∀ p ∈ l, σ.ev p.1 = some p.2 /\ p.2.on = true) -> (l.map (·.1)).Nodup -> (fpL g l).Nodup
 | [], _, _ => List.nodup_nil
 | p :: l, h, hn => by
  have hO : ∀ q ∈ p :: l, σ.On q.1 := fun q hq => ⟨q.2, h q hq⟩
  rw [List.map_cons, List.nodup_cons] at hn
  show (g.φ p.1 ++ fpL g l).Nodup
  refine List.nodup_append.2 ⟨hR.nodup p.1 (hO p (by simp)), zeh (fun q hq => h q (by simp [hq])) hn.2, fun b hb c hc hbc => ?_⟩
  subst hbc
  unfold fpL at hc
  obtain ⟨q, hq, hbq⟩ := List.mem_flatMap.1 hc
  have hne : p.1 ≠ q.1 := fun e => hn.1 (by rw [e]; exact List.mem_map.2 ⟨q, hq, rfl⟩)
  exact hR.apart p.1 q.1 (hO p (by simp)) (hO q (by simp [hq])) hne b hb hbq
end
theorem zsg {rows : List (List T)} {rs : List (List C)} {n : Nat} (h : rows.map List.length = rs.map List.length) (hr : ∀ r ∈ rs, r.length = n) : lens n rows := fun r hr' => by
 have : r.length ∈ rows.map List.length := List.mem_map.2 ⟨r, hr', rfl⟩
 rw [h] at this
 obtain ⟨r', h1, h2⟩ := List.mem_map.1 this
 rw [<- h2]; exact hr r' h1
def litC (P : Program) (get : TypeId -> Operand -> V) (t : TypeId) (len : Nat) (parts : Array (Nat × Operand)) : Option (Nat × List (List C)) :=
 (elT P t).bind fun el => (za1 P el).bind fun n => (zcb P el).bind fun _ => if parts.size = len /\ len * n <= 16777216 /\ len <= 16777216 then (znj P el n get 0 parts.toList).map fun rs => (n, rs) else none
theorem zp0 {σ : St} {t : TypeId} {len n : Nat} {parts : Array (Nat × Operand)} {rs : List (List C)} (h : litC P (σ.get P) t len parts = some (n, rs)) {n0 : Nat -> Prop} {N : Nat} {g : Gh} {a : Act} {w : World} (hR : Rel n0 N σ g a w) :
  ∃ (cells : Array Value) (el : TypeId), (Instr.buildSlice t len (parts.map fun (i, x) => (i, a.eval x))).run P w = .ok (.slice (some ⟨w.heap.size, 0, none⟩) len len) (w.alloc (.cells cells el)) /\ CRs σ g w rs.flatten cells.toList /\ rs.length = len /\ (∀ r ∈ rs, r.length = n) /\ cells.size = len * n /\ len <= 16777216 := by
 unfold litC at h
 obtain ⟨el, h1, h⟩ := Option.bind_eq_some_iff.1 h
 obtain ⟨n', h2, h⟩ := Option.bind_eq_some_iff.1 h
 obtain ⟨z, h3, h⟩ := Option.bind_eq_some_iff.1 h
 split at h
 ·rename_i hh
  obtain ⟨rs', h4, h⟩ := Option.map_eq_some_iff.1 h
  simp only [Prod.mk.injEq] at h
  obtain ⟨rfl, rfl⟩ := h
  obtain ⟨i, zv, i1, i2, _⟩ := zde h3
  have hin : i.size = n' := by unfold za1 at h2; rw [i1] at h2; simpa using h2
  obtain ⟨k1, k2, k3, k4⟩ := zje hR h4
  have hpl : (parts.map fun (i, x) => (i, a.eval x)).toList = parts.toList.map fun p => (p.1, a.eval p.2) := by simp
  obtain ⟨cells, c1, c2⟩ := zrx (P := P) w t el len (parts.map fun (i, x) => (i, a.eval x)) i zv (zca h1) i1 i2 (by rw [hin]; simpa using hh.2.1) (by simp [hh.1]) (fun j i' v hj => by
   rw [hpl] at hj
   have := k1 j i' v hj
   exact ⟨by omega, by rw [hin]; exact this.2⟩)
  rw [hpl] at c2
  rw [<- c2] at k3
  refine ⟨cells, el, c1, k3, by rw [k2]; simpa using hh.1, k4, ?_, hh.2.2⟩
  have hl := k3.len
  rw [Array.length_toList] at hl
  rw [hl]
  have : ∀ l : List (List C), (∀ r ∈ l, r.length = n') -> l.flatten.length = l.length * n' := by
   intro l
   induction l with
   | nil => intro _; simp
   | cons r l ih => intro hr; simp [hr r (by simp), ih fun x hx => hr x (by simp [hx]), Nat.add_mul]; omega
  rw [this rs' k4, k2]
  congr 1
  simpa using hh.1
 ·cases h
section
variable {ty : TypeId} {ps : String} {af : Array Edge} {d : Nat} {σ : St} {t : TypeId} {len n : Nat} {parts : Array (Nat × Operand)} {rs : List (List C)} {rows : List (List T)} {cons : List (Nat × Ev)}
theorem zpi (h : litC P (σ.get P) t len parts = some (n, rs) /\ dpRs σ rs = some (rows, cons) /\ σ.ev (d * 32) = none /\ (cons.map (·.1)).Nodup) :
  zab P ⟨some d, .buildSlice t len parts, ty, ps, af, none⟩ σ ((σ.apd (d * 32) cons ⟨true, n, rows, 0, true⟩).put (some d) (.one (.ow (d * 32) 0))) := by
 intro n0 N g a w hR hn hdN
 obtain ⟨h1, h2, h3, h4⟩ := h
 obtain ⟨cells, el, c1, c2, c3, c4, c5, c6⟩ := zp0 h1 hR
 obtain ⟨o1, o2, o3⟩ := zjp hR c2 h2
 have hlen : rows.length = len := by rw [<- c3]; simpa using congrArg List.length o3
 have hl := zsg o3 c4
 have hvl := o1.len
 have hfl : rows.flatten.length = len * n := by rw [zee hl, hlen]
 obtain ⟨g', r1, r2, r3, r4⟩ := hR.newown hn (e := d * 32) h3 (cons := cons) (fun p hp => ⟨(o2 p hp).1, (o2 p hp).2, fun e => by have := (o2 p hp).1; rw [e, h3] at this; cases this⟩) (sz := n) (rows := rows) (vs := cells.toList) hl (dp := true) (by simp) (fun _ => o1) (by simp) (zeh hR o2 h4) (fun b hb => by
  unfold fpL at hb
  obtain ⟨p, hp, hbp⟩ := List.mem_flatMap.1 hb
  exact ⟨p, hp, hbp⟩) cells el len (by rw [c5]) (by omega) (by unfold zdd; omega) (List.take_of_length_le (by rw [hlen, Array.length_toList, c5]; omega))
 rw [hlen] at r2
 have hrun : (execOp a.eval ⟨some d, .buildSlice t len parts, ty, ps, af, none⟩).run P w = .ok (.value (.slice (some ⟨w.heap.size, 0, none⟩) len len)) (w.alloc (.cells cells el)) := by
  unfold execOp
  simp only [Sem.run_bind, c1, Result.andThen_ok, Sem.run_pure]
 unfold Oper.wp
 rw [hrun]
 refine ⟨g', r1.put (some d) (x := .one (.ow (d * 32) 0)) ⟨r2, ⟨true, n, rows, 0, true⟩, by simp [St.apd, zac], Nat.le_refl _⟩ hdN, ?_, r3, r4⟩
 exact ⟨rfl, rfl, rfl, by simp, fun k hk => Below.heap_alloc w _ k (hn k hk)⟩
variable {ks : List Fr} {Q : Exit -> St -> Prop} {ops : Array Oper} {os : List Oper} {L : List (List Ky × List Ky)}
end
attribute [go_sem] St.apd offs Ev.off St.upE zji
end Go.Proofs.Yteeaofpphmhjdaa
namespace Go.Proofs.Yteeaofpphmhjdaa
set_option linter.unusedSimpArgs false
set_option linter.unusedVariables false
set_option linter.unusedSectionVars false
set_option maxRecDepth 4000
open Go.RowKit
variable {P : Program}
def zb9 (rows : List (List T)) (i o : Nat) (ts : List T) : List (List T) := rows.set i (setR (rows.getD i []) o ts)
theorem zg4 (rows : List (List T)) (i o : Nat) (ts : List T) : (zb9 rows i o ts).length = rows.length := by simp [zb9]
theorem zju {α : Type} (r fl ts : List α) (q : Nat) : setR (r ++ fl) (r.length + q) ts = r ++ setR fl q ts := by
 unfold setR
 rw [List.take_length_add_append, Nat.add_assoc, List.drop_length_add_append]
 simp
theorem zfo {sz : Nat} : ∀ {rows : List (List T)} {i o : Nat} {ts : List T}, lens sz rows -> i < rows.length -> o + ts.length <= sz -> (zb9 rows i o ts).flatten = setR rows.flatten (i * sz + o) ts /\ lens sz (zb9 rows i o ts)
 | [], i, o, ts, _, hi, _ => by simp at hi
 | r :: rows, 0, o, ts, hl, _, ho => by
  have hr := hl r (by simp)
  refine ⟨?_, fun x hx => ?_⟩
  ·simp only [zb9, List.set_cons_zero, List.getD_cons_zero, List.flatten_cons, setR, Nat.zero_mul, Nat.zero_add]
   rw [List.take_append_of_le_length (by omega), List.drop_append_of_le_length (by omega)]
   simp
  ·simp only [zb9, List.set_cons_zero, List.getD_cons_zero, List.mem_cons] at hx
   rcases hx with rfl | hx
   ·rw [zn8 _ _ _ (by omega)]; exact hr
   ·exact hl x (by simp [hx])
 | r :: rows, i + 1, o, ts, hl, hi, ho => by
  have hr := hl r (by simp)
  obtain ⟨k1, k2⟩ := zfo (rows := rows) (i := i) (o := o) (ts := ts) (fun x hx => hl x (by simp [hx])) (by simpa using hi) ho
  refine ⟨?_, fun x hx => ?_⟩
  ·have e : zb9 (r :: rows) (i + 1) o ts = r :: zb9 rows i o ts := by simp [zb9]
   have e2 : (i + 1) * sz + o = r.length + (i * sz + o) := by rw [hr, Nat.add_mul, Nat.one_mul]; omega
   rw [e, List.flatten_cons, k1, List.flatten_cons, e2, zju]
  ·have e : zb9 (r :: rows) (i + 1) o ts = r :: zb9 rows i o ts := by simp [zb9]
   rw [e] at hx
   rcases List.mem_cons.1 hx with rfl | hx
   ·exact hr
   ·exact k2 x hx
theorem zo0 {ds : Option Nat} {ty : TypeId} {ps : String} {af : Array Edge} {σ : St} {t : TypeId} {x y : Operand} {e gn sz i o n : Nat} {rows : List (List T)} {ts : List T} {cons : List (Nat × Ev)}
  (hx : σ.get P 0 x = .one (.eo e gn sz i o)) (hn : za1 P t = some n) (he : σ.ev e = some ⟨true, sz, rows, gn, true⟩) (hl : (σ.get P t y).cells.length = n) (hle : o + n <= sz) (hg : (σ.get P t y).cells.all C.good = true) (hy : (σ.get P t y).isTup = false)
  (hd : zob σ (σ.get P t y).cells = some (ts, cons)) (hnd : (cons.map (·.1)).Nodup) (hne : ∀ p ∈ cons, p.1 ≠ e) :
  zab P ⟨ds, .store t x y, ty, ps, af, none⟩ σ ((σ.apd e cons ⟨true, sz, zb9 rows i o ts, gn, true⟩).put ds (.one .any)) := by
 intro n0 N g a w hR hn0 hdN
 have hv := hR.get P 0 x
 rw [hx] at hv
 obtain ⟨b, nn, cp, v1, v2, v3, v4⟩ := hv
 obtain ⟨vs0, fps, top, hT⟩ := hR.tgt he rfl
 rcases hT.val with ⟨hh, _⟩ | ⟨b', cap, cells, cty, w1, w2, w3, w4, w5, w6, w7⟩
 ·simp only at hh; rw [v1] at hh; cases hh
 simp only at w1 w2 w5 w6
 rw [v1] at w1
 injection w1 with e1 e2 e3
 simp only [Option.some.injEq, Addr.mk.injEq, and_true] at e1
 subst e1 e2 e3
 obtain ⟨c1, c2⟩ := hR.vcells t y hg hy
 obtain ⟨o1, o2, o3⟩ := zd1 hR c1 hd
 have hnews : (a.eval y).cells.toList.length = n := by rw [c1.len]; exact hl
 have hts : ts.length = n := by rw [o3]; exact hl
 have hlens := hT.lens
 simp only at hlens
 obtain ⟨q1, q2⟩ := zfo (o := o) (ts := ts) hlens v3 (by rw [hts]; exact hle)
 have hflat := zee hlens
 have hq : i * sz + o + n <= rows.length * sz := by
  have : (i + 1) * sz <= rows.length * sz := Nat.mul_le_mul_right _ v3
  rw [Nat.add_mul, Nat.one_mul] at this
  omega
 generalize hqq : i * sz + o = q at *
 have hsplit : rows.flatten = rows.flatten.take q ++ ((rows.flatten.drop q).take n ++ rows.flatten.drop (q + n)) := by
  rw [<- List.drop_drop, List.take_append_drop, List.take_append_drop]
 have hown := hT.own rfl
 simp only at hown
 rw [hsplit] at hown
 obtain ⟨u1, u', f1, f', rfl, rfl, k1, k'⟩ := hown.split
 obtain ⟨u2, u3, f2, f3, rfl, rfl, k2, k3⟩ := k'.split
 have l1 : u1.length = q := by rw [k1.len, List.length_take]; omega
 have l2 : u2.length = n := by rw [k2.len, List.length_take, List.length_drop]; omega
 obtain ⟨rest, hrest⟩ : ∃ rest, cells.toList = u1 ++ (u2 ++ u3) ++ rest := ⟨cells.toList.drop (rows.length * sz), by rw [<- w6, List.take_append_drop]⟩
 have hcsz : q + n <= cells.size := by
  have := congrArg List.length hrest
  simp only [List.length_append, Array.length_toList] at this
  omega
 have hnew : cells.toList.take q ++ (a.eval y).cells.toList ++ cells.toList.drop (q + (a.eval y).cells.toList.length) = u1 ++ ((a.eval y).cells.toList ++ (u3 ++ rest)) := by
  rw [hnews, hrest, <- l1, <- l2]
  simp [List.drop_append]
 have hrun : (execOp a.eval ⟨ds, .store t x y, ty, ps, af, none⟩).run P w = .ok .skip (w.setRow b (u1 ++ ((a.eval y).cells.toList ++ (u3 ++ rest))).toArray) := by
  have hst := run_storeCells_at P b q cty (a.eval y).cells.toList 0 cells w w4 (by rw [hnews]; omega) c2
  simp only [Nat.add_zero] at hst
  rw [hnew] at hst
  have hcs : (a.eval y).cells.size = n := by simpa using hnews
  unfold execOp
  simp only [Instr.storeAt, v2, Instr.sureAddr, Sem.run_bind, Sem.run_pure, Result.andThen, storeVar, zax hn, hcs, ne_eq, not_true, if_false, hst]
 unfold Oper.wp
 rw [hrun]
 have hcO : ∀ p ∈ cons, σ.On p.1 := fun p hp => ⟨p.2, o2 p hp⟩
 have hfpm : ∀ c ∈ fpL g cons, ∃ p ∈ cons, c ∈ g.φ p.1 := fun c hc => by
  unfold fpL at hc
  obtain ⟨p, hp, hbp⟩ := List.mem_flatMap.1 hc
  exact ⟨p, hp, hbp⟩
 have hmix : ∀ c, (some c = top \/ c ∈ f1 ++ (f2 ++ f3)) -> c ∉ fpL g cons := fun c hc hm => by
  obtain ⟨p, hp, hcp⟩ := hfpm c hm
  exact (hT.bx c hc).2.2.2 p.1 (hne p hp) (hcO p hp) hcp
 have hb0 : b ∉ f1 ++ (f2 ++ f3) := hT.topfp b w7.symm
 have hnodup : (b :: (f1 ++ (fpL g cons ++ f3))).Nodup := by
  have h0 := hT.nodup
  obtain ⟨d1, d2, d3⟩ := List.nodup_append.1 h0
  obtain ⟨d4, d5, d6⟩ := List.nodup_append.1 d2
  refine List.nodup_cons.2 ⟨fun hm => ?_, List.nodup_append.2 ⟨d1, List.nodup_append.2 ⟨zeh hR o2 hnd, d5, fun c hc d hd hcd => ?_⟩, fun c hc d hd hcd => ?_⟩⟩
  ·simp only [List.mem_append, not_or] at hm hb0
   rcases hm with hm | hm | hm
   ·exact hb0.1 hm
   ·exact hmix b (Or.inl w7.symm) hm
   ·exact hb0.2.2 hm
  ·subst hcd; exact hmix c (Or.inr (by simp [hd])) hc
  ·subst hcd
   rcases List.mem_append.1 hd with hd | hd
   ·exact hmix c (Or.inr (by simp [hc])) hd
   ·exact d3 c hc c (by simp [hd]) rfl
 have hsame : ∀ k, k ≠ b -> (w.setRow b (u1 ++ ((a.eval y).cells.toList ++ (u3 ++ rest))).toArray).heap[k]? = w.heap[k]? := fun k hk => setRow_other w _ k _ hk
 have hblk := setRow_heap w b cells (u1 ++ ((a.eval y).cells.toList ++ (u3 ++ rest))).toArray cty (0, 0) w4
 have hsize : (w.setRow b (u1 ++ ((a.eval y).cells.toList ++ (u3 ++ rest))).toArray).heap.size = w.heap.size := setRow_size _ _ _
 have hbk : Bk n0 w (w.setRow b (u1 ++ ((a.eval y).cells.toList ++ (u3 ++ rest))).toArray) := ⟨rfl, rfl, rfl, Nat.le_of_eq hsize.symm, fun k hk => hsame k fun e' => (hT.bx b (Or.inl w7.symm)).2.1.2.2 (e' ▸ hk)⟩
 generalize w.setRow b (u1 ++ ((a.eval y).cells.toList ++ (u3 ++ rest))).toArray = w' at hsame hblk hsize hbk ⊢
 have hR' := hR.apd_fin (w' := w') (y := ⟨true, sz, zb9 rows i o ts, gn, true⟩) (v' := g.ψ e gn) (fp' := b :: (f1 ++ (fpL g cons ++ f3))) (fps2 := fpL g cons) hT rfl (fun m hm => ⟨by
   obtain ⟨z, hz, hmz⟩ := hm
   rw [he, Option.some.injEq] at hz
   subst hz
   exact hmz, fun em => by simp only at em; rw [em]⟩) (cons := cons) (fun p hp => ⟨(o2 p hp).1, (o2 p hp).2, hne p hp⟩) hfpm b (Or.inl w7.symm) (fun k _ hk => hsame k hk) (Nat.le_of_eq hsize.symm) hn0 hnodup (fun c hc => by
   simp only [List.mem_cons, List.mem_append] at hc ⊢
   rcases hc with h | h | h | h <;> simp [h]) (fun c hc => by simpa using hc.symm) fun A' hA => by
  refine ⟨some ⟨b, 0, none⟩, cp, by rw [zg4]; exact v1, by rw [zg4]; exact w2, w3, Or.inr ⟨b, _, cty, _, rfl, rfl, hblk, ?_, ?_⟩⟩
  ·have := congrArg List.length hrest
   simp only [List.length_append, Array.length_toList] at this
   simp only [List.size_toArray, List.length_append, hnews]
   omega
  ·simp only [if_true]
   have ha : zaj w' (zb9 rows i o ts).flatten (u1 ++ ((a.eval y).cells.toList ++ u3)) (f1 ++ (fpL g cons ++ f3)) := by
    rw [q1]
    unfold setR
    rw [hts, List.append_assoc]
    refine (k1.append (o1.append k3)).keep fun c hc => hsame c fun hcb => ?_
    subst hcb
    exact (List.nodup_cons.1 hnodup).1 hc
   refine zad.of_vals q2 ha fun j u hu => ?_
   rw [Nat.zero_add]
   have : (u1 ++ ((a.eval y).cells.toList ++ (u3 ++ rest))) = (u1 ++ ((a.eval y).cells.toList ++ u3)) ++ rest := by simp
   rw [this]
   simp only [List.getElem?_toArray]
   rw [List.getElem?_append_left (List.getElem?_eq_some_iff.1 hu).1]
   exact hu
 exact ⟨_, hR'.put ds (x := .one .any) trivial hdN, hbk, rfl, rfl⟩
def stoD (P : Program) (σ : St) (t : TypeId) (x y : Operand) : Option (Nat × Ev × List (Nat × Ev)) := match σ.get P 0 x with
 | .one (.eo e g sz i o) => (σ.ev e).bind fun z => (za1 P t).bind fun n =>
  if z.deep = true /\ z.sz = sz /\ z.gen = g /\ z.on = true /\ (σ.get P t y).cells.length = n /\ o + n <= sz /\ (σ.get P t y).cells.all C.good = true /\ (σ.get P t y).isTup = false then
   (zob σ (σ.get P t y).cells).map fun q => (e, ⟨true, sz, zb9 z.rows i o q.1, g, true⟩, q.2) else none
 | _ => none
def St.apdO (σ : St) : Option (Nat × Ev × List (Nat × Ev)) -> St
 | some (e, y, cons) => σ.apd e cons y
 | none => σ
section
variable {ks : List Fr} {Q : Exit -> St -> Prop} {σ : St} {ops : Array Oper} {os : List Oper} {L : List (List Ky × List Ky)} {ty : TypeId} {ps : String} {af : Array Edge} {ds : Option Nat} {x y : Operand} {t : TypeId}
theorem zou (h : zao (stoD P σ t x y) fun r => (r.2.2.map (·.1)).Nodup /\ ∀ p ∈ r.2.2, p.1 ≠ r.1) : zab P ⟨ds, .store t x y, ty, ps, af, none⟩ σ ((σ.apdO (stoD P σ t x y)).put ds (.one .any)) := by
 obtain ⟨⟨e, z', cons⟩, h1, h2, h3⟩ := zam h
 rw [h1]
 unfold stoD at h1
 split at h1
 ·rename_i e' g sz i o hx
  obtain ⟨z, hz, h1⟩ := Option.bind_eq_some_iff.1 h1
  obtain ⟨n, hn, h1⟩ := Option.bind_eq_some_iff.1 h1
  split at h1
  ·rename_i hh
   obtain ⟨zd, zsz, zr, zg, zo⟩ := z
   obtain ⟨k1, k2, k3, k4, k5, k6, k7, k8⟩ := hh
   obtain ⟨⟨ts, cs⟩, hq, h1⟩ := Option.map_eq_some_iff.1 h1
   simp only at k1 k2 k3 k4
   subst k1 k2 k3 k4
   simp only [Prod.mk.injEq] at h1
   obtain ⟨rfl, rfl, rfl⟩ := h1
   exact zo0 hx hn hz k5 k6 k7 k8 hq h2 h3
  ·cases h1
 ·cases h1
theorem zqo (h : zao (stoD P σ t x y) fun r => (r.2.2.map (·.1)).Nodup /\ ∀ p ∈ r.2.2, p.1 ≠ r.1)
  (k : exo P ops os ks Q ((σ.apdO (stoD P σ t x y)).put ds (.one .any))) : exoS P ops ⟨ds, .store t x y, ty, ps, af, none⟩ os ks Q σ := (zou h).toX k
end
attribute [go_sem] stoD St.apdO dpC zob dpRs
end Go.Proofs.Yteeaofpphmhjdaa
namespace Go.Proofs.Yteeaofpphmhjdaa
set_option linter.unusedSimpArgs false
set_option linter.unusedVariables false
set_option linter.unusedSectionVars false
set_option maxRecDepth 4000
open Go.RowKit
variable {P : Program}
theorem zgy (zc : Array Value) (n : Nat) (h : zc.size = n) : ∀ c, (madeCells zc (c * n)).toList = (List.replicate c zc.toList).flatten
 | 0 => by simp [madeCells]
 | c + 1 => by
  have ih := zgy zc n h c
  have key : (madeCells zc ((c + 1) * n)).toList = (madeCells zc (c * n)).toList ++ zc.toList := by
   unfold madeCells
   simp only [Array.toList_map, Array.toList_range]
   rw [show (c + 1) * n = c * n + n by rw [Nat.add_mul, Nat.one_mul], List.range_add, List.map_append]
   congr 1
   refine List.ext_getElem (by simp [h]) fun j hj hj' => ?_
   have hjn : j < n := by simpa using hj
   simp only [List.getElem_map, List.getElem_range, h]
   rw [Nat.add_comm, Nat.add_mul_mod_self_right, Nat.mod_eq_of_lt hjn]
   simp [h, hjn]
  rw [key, ih, List.replicate_succ', List.flatten_append]
  simp
theorem zaj.rep_rows {w : World} {ts : List T} {vs : List Value} (h : zaj w ts vs []) : ∀ c : Nat, zaj w (List.replicate c ts).flatten (List.replicate c vs).flatten []
 | 0 => ⟨rfl, rfl⟩
 | c + 1 => by
  rw [List.replicate_succ, List.replicate_succ, List.flatten_cons, List.flatten_cons]
  exact h.append (zaj.rep_rows h c)
theorem s_make {d : Nat} {ty : TypeId} {ps : String} {af : Array Edge} {σ : St} {t el : TypeId} {l c : Operand} {n bts : Nat} {z : List C} {zts : List T} {kl kc : IntKind} {a b : Int}
  (h1 : elT P t = some el) (h2 : za1 P el = some n) (h3 : zcq P el = some bts) (h4 : zcb P el = some z) (hz : z.length = n) (hq : zob σ z = some (zts, [])) (hl : σ.get P 0 l = .one (.t (.int kl a))) (hc : σ.get P 0 c = .one (.t (.int kc b)))
  (hp : 0 < bts) (h0 : 0 <= a) (hab : a <= b) (hb : (bts : Int) * b <= 281474976710656) (he : σ.ev (d * 32) = none) :
  zab P ⟨some d, .makeSlice t l c, ty, ps, af, none⟩ σ ((σ.apd (d * 32) [] ⟨true, n, List.replicate a.toNat zts, 0, true⟩).put (some d) (.one (.ow (d * 32) 0))) := by
 intro n0 N g act w hR hn hdN
 have v1 := hR.get P 0 l
 have v2 := hR.get P 0 c
 rw [hl] at v1
 rw [hc] at v2
 simp only [VR, CR, zah] at v1 v2
 obtain ⟨i, zv, i1, i2, i3⟩ := zde h4
 have hin : i.size = n := by unfold za1 at h2; rw [i1] at h2; simpa using h2
 have hib : i.bytes = bts := by unfold zcq at h3; rw [i1] at h3; simpa using h3
 have hb1 : b <= 281474976710656 := by
  have : (1 : Int) * b <= (bts : Int) * b := Int.mul_le_mul_of_nonneg_right (by omega) (by omega)
  omega
 have hcr := i3 σ g w
 obtain ⟨o1, _, o3⟩ := zd1 hR hcr hq
 have hzs : zv.cells.size = n := by have := hcr.len; simp at this; omega
 have hr := run_make (P := P) w t el i zv (zca h1) i1 i2 kl kc a b h0 hab (by rw [hib]; exact hb) (by omega)
 rw [hin] at hr
 have hrun : (execOp act.eval ⟨some d, .makeSlice t l c, ty, ps, af, none⟩).run P w = .ok (.value (.slice (some ⟨w.heap.size, 0, none⟩) a.toNat b.toNat)) (w.alloc (.cells (madeCells zv.cells (b.toNat * n)) el)) := by
  unfold execOp
  simp only [v1.1, v2.1, Sem.run_bind, hr, Result.andThen_ok, Sem.run_pure]
 have hrows : (List.replicate a.toNat zv.cells.toList).flatten = (madeCells zv.cells (b.toNat * n)).toList.take (a.toNat * n) := by
  rw [zgy _ _ hzs, show b.toNat = a.toNat + (b.toNat - a.toNat) by omega, <- List.replicate_append_replicate, List.flatten_append, List.take_append_of_le_length (by simp [hzs]), List.take_of_length_le (by simp [hzs])]
 have hlen : lens n (List.replicate a.toNat zts) := fun r hr => by
  rw [List.eq_of_mem_replicate hr, o3, hz]
 obtain ⟨g', r1, r2, r3, r4⟩ := hR.newown hn (e := d * 32) he (cons := []) (by simp) (sz := n) (rows := List.replicate a.toNat zts) (vs := (List.replicate a.toNat zv.cells.toList).flatten) hlen (dp := true) (by simp) (fun _ => zaj.rep_rows o1 _) (by simp) List.nodup_nil (by simp) (madeCells zv.cells (b.toNat * n)) el b.toNat (by rw [size_madeCells]) (by simp; omega) (by unfold zdd; omega) (by rw [List.length_replicate]; exact hrows.symm)
 rw [List.length_replicate] at r2
 unfold Oper.wp
 rw [hrun]
 refine ⟨g', r1.put (some d) (x := .one (.ow (d * 32) 0)) ⟨r2, ⟨true, n, List.replicate a.toNat zts, 0, true⟩, by simp [St.apd, zac], Nat.le_refl _⟩ hdN, ?_, r3, r4⟩
 exact ⟨rfl, rfl, rfl, by simp, fun k hk => Below.heap_alloc w _ k (hn k hk)⟩
def mkD (P : Program) (σ : St) (t : TypeId) (l c : Operand) : Option (Prop × Ev) :=
 (elT P t).bind fun el => (za1 P el).bind fun n => (zcq P el).bind fun bts => (zcb P el).bind fun z => (zob σ z).bind fun q => match σ.get P 0 l, σ.get P 0 c with
  | .one (.t (.int _ a)), .one (.t (.int _ b)) => if z.length = n /\ q.2.length = 0 /\ 0 < bts then some ((0 <= a /\ a <= b /\ (bts : Int) * b <= 281474976710656), ⟨true, n, List.replicate a.toNat q.1, 0, true⟩) else none
  | _, _ => none
def St.mk1 (σ : St) (d : Nat) : Option (Prop × Ev) -> St
 | some (_, y) => σ.apd (d * 32) [] y
 | none => σ
section
variable {ks : List Fr} {Q : Exit -> St -> Prop} {σ : St} {ops : Array Oper} {os : List Oper} {ty : TypeId} {ps : String} {af : Array Edge} {d : Nat} {l c : Operand} {t : TypeId}
theorem makeD (h : zao (mkD P σ t l c) fun r => r.1 /\ σ.ev (d * 32) = none) (k : exo P ops os ks Q ((σ.mk1 d (mkD P σ t l c)).put (some d) (.one (.ow (d * 32) 0)))) :
  exo P ops (⟨some d, .makeSlice t l c, ty, ps, af, none⟩ :: os) ks Q σ := by
 obtain ⟨⟨p, y⟩, h1, h2, h3⟩ := zam h
 rw [h1] at k
 unfold mkD at h1
 obtain ⟨el, e1, h1⟩ := Option.bind_eq_some_iff.1 h1
 obtain ⟨n, e2, h1⟩ := Option.bind_eq_some_iff.1 h1
 obtain ⟨bts, e3, h1⟩ := Option.bind_eq_some_iff.1 h1
 obtain ⟨z, e4, h1⟩ := Option.bind_eq_some_iff.1 h1
 obtain ⟨⟨q1, q2⟩, e5, h1⟩ := Option.bind_eq_some_iff.1 h1
 split at h1
 ·rename_i kl a kc b hl hc
  split at h1
  ·rename_i hh
   obtain ⟨k1, k2, k3⟩ := hh
   have : q2 = [] := List.eq_nil_of_length_eq_zero k2
   subst this
   simp only [Option.some.injEq, Prod.mk.injEq] at h1
   obtain ⟨rfl, rfl⟩ := h1
   exact zeb rfl rfl (s_make e1 e2 e3 e4 k1 e5 hl hc k3 h2.1 h2.2.1 h2.2.2 h3) k
  ·cases h1
 ·cases h1
end
attribute [go_sem] mkD St.mk1
end Go.Proofs.Yteeaofpphmhjdaa
namespace Go.Proofs.Yteeaofpphmhjdaa
set_option linter.unusedSimpArgs false
set_option linter.unusedVariables false
set_option linter.unusedSectionVars false
set_option maxRecDepth 4000
open Go.RowKit
variable {P : Program}
def blD (P : Program) (σ : St) (t : TypeId) (len : Nat) (parts : Array (Nat × Operand)) : Option (Ev × List (Nat × Ev)) :=
 (litC P (σ.get P) t len parts).bind fun p => (dpRs σ p.2).map fun q => (⟨true, p.1, q.1, 0, true⟩, q.2)
def St.bl (σ : St) (d : Nat) : Option (Ev × List (Nat × Ev)) -> St
 | some (x, cons) => σ.apd (d * 32) cons x
 | none => σ
def flR : List (List T) -> Bool
 | [] => true
 | r :: rs => r.all T.flat && flR rs
theorem zgj : ∀ {rows : List (List T)}, flR rows = true -> ∀ c ∈ rows.flatten, c.flat = true
 | [], _, c, hc => by simp at hc
 | r :: rs, h, c, hc => by
  unfold flR at h
  simp only [Bool.and_eq_true, List.all_eq_true] at h
  rw [List.flatten_cons, List.mem_append] at hc
  exact hc.elim (h.1 c) (zgj h.2 c)
def apV (P : Program) (σ : St) (d : Nat) (t : TypeId) (s y : Operand) (dp2 : Bool) : Option (Prop × Nat × Ev × List (Nat × Ev)) := match σ.get P t s, (σ.get P t y).rd with
 | .one (.ow e gn), .one (.ow e2 gn2) => (σ.ev e).bind fun x => (σ.ev e2).bind fun z =>
  if x.gen = gn /\ x.on = true /\ z.gen = gn2 /\ z.on = true /\ z.sz = x.sz /\ e2 ≠ e then some ((apT P t x.sz /\ x.rows.length + z.rows.length <= 4294967296), e, ⟨x.deep && z.deep, x.sz, x.rows ++ z.rows, gn + 1, true⟩, [(e2, z)])
  else none
 | .one (.ow e gn), .one (.t (.sl sz rows2)) => (σ.ev e).bind fun x =>
  if x.gen = gn /\ x.on = true /\ sz = x.sz then some ((apT P t x.sz /\ x.rows.length + rows2.length <= 4294967296 /\ (dp2 = true -> flR rows2 = true)), e, ⟨x.deep && dp2, x.sz, x.rows ++ rows2, gn + 1, true⟩, [])
  else none
 | .one (.nl _), .one (.ow e2 gn2) => (σ.ev e2).bind fun z =>
  if z.gen = gn2 /\ z.on = true /\ e2 ≠ d * 32 then some ((apT P t z.sz /\ z.rows.length <= 4294967296 /\ σ.ev (d * 32) = none), d * 32, ⟨z.deep, z.sz, z.rows, 0, true⟩, [(e2, z)]) else none
 | .one (.nl _), .one (.t (.sl sz rows2)) => some ((apT P t sz /\ rows2.length <= 4294967296 /\ (dp2 = true -> flR rows2 = true) /\ σ.ev (d * 32) = none), d * 32, ⟨dp2, sz, rows2, 0, true⟩, [])
 | _, _ => none
def St.apV (σ : St) (d : Nat) : Option (Prop × Nat × Ev × List (Nat × Ev)) -> St
 | some (_, e, x, cons) => (σ.apd e cons x).put (some d) (.one (.ow e x.gen))
 | none => σ
section
variable {ks : List Fr} {Q : Exit -> St -> Prop} {σ : St} {ops : Array Oper} {os : List Oper} {L : List (List Ky × List Ky)} {d : Nat} {t : TypeId} {ty : TypeId} {ps : String} {af : Array Edge} {len : Nat} {parts : Array (Nat × Operand)} {s y : Operand}
theorem zsc (h : zao (blD P σ t len parts) fun r => σ.ev (d * 32) = none /\ (r.2.map (·.1)).Nodup) : zab P ⟨some d, .buildSlice t len parts, ty, ps, af, none⟩ σ ((σ.bl d (blD P σ t len parts)).put (some d) (.one (.ow (d * 32) 0))) := by
 obtain ⟨⟨x, cons⟩, h1, h2, h3⟩ := zam h
 rw [h1]
 unfold blD at h1
 obtain ⟨p, e1, h1⟩ := Option.bind_eq_some_iff.1 h1
 obtain ⟨q, e2, h1⟩ := Option.map_eq_some_iff.1 h1
 simp only [Prod.mk.injEq] at h1
 obtain ⟨rfl, rfl⟩ := h1
 exact zpi ⟨e1, e2, h2, h3⟩
theorem zav (h : zao (blD P σ t len parts) fun r => σ.ev (d * 32) = none /\ (r.2.map (·.1)).Nodup) (k : exo P ops os ks Q ((σ.bl d (blD P σ t len parts)).put (some d) (.one (.ow (d * 32) 0)))) :
  exo P ops (⟨some d, .buildSlice t len parts, ty, ps, af, none⟩ :: os) ks Q σ := zeb rfl rfl (zsc h) k
theorem zri (dp2 : Bool) (h : zao (apV P σ d t s y dp2) fun r => r.1) : zab P ⟨some d, .call ⟨.builtin .append, #[s, y], #[t, t]⟩, ty, ps, af, none⟩ σ (σ.apV d (apV P σ d t s y dp2)) := by
 obtain ⟨⟨p, e, x, cons⟩, h1, h2⟩ := zam h
 rw [h1]
 unfold Go.Proofs.Yteeaofpphmhjdaa.apV at h1
 split at h1
 ·rename_i e0 gn e2 gn2 hs hy
  obtain ⟨x0, k1, h3⟩ := Option.bind_eq_some_iff.1 h1
  obtain ⟨z, k2, h4⟩ := Option.bind_eq_some_iff.1 h3
  clear h1 h3
  by_cases hc : x0.gen = gn /\ x0.on = true /\ z.gen = gn2 /\ z.on = true /\ z.sz = x0.sz /\ e2 ≠ e0
  ·rw [if_pos hc] at h4
   obtain ⟨rfl, c2, rfl, c4, c5, c6⟩ := hc
   simp only [Option.some.injEq, Prod.mk.injEq] at h4
   obtain ⟨rfl, rfl, rfl, rfl⟩ := h4
   obtain ⟨dp, sz, rows, gn, on⟩ := x0
   obtain ⟨dp2, sz2, rows2, gn2, on2⟩ := z
   simp only at c2 c4 c5
   subst c2 c4 c5
   exact s_apOO ⟨hs, rd_ow hy, k1, k2, c6, rfl⟩ h2.1 h2.2
  ·rw [if_neg hc] at h4; cases h4
 ·rename_i e0 gn sz rows2 hs hy
  obtain ⟨x0, k1, h4⟩ := Option.bind_eq_some_iff.1 h1
  clear h1
  by_cases hc : x0.gen = gn /\ x0.on = true /\ sz = x0.sz
  ·rw [if_pos hc] at h4
   obtain ⟨rfl, c2, rfl⟩ := hc
   simp only [Option.some.injEq, Prod.mk.injEq] at h4
   obtain ⟨rfl, rfl, rfl, rfl⟩ := h4
   obtain ⟨dp, sz, rows, gn, on⟩ := x0
   simp only at c2
   subst c2
   exact s_apOT dp2 ⟨hs, hy, k1⟩ (fun hd => zgj (h2.2.2 hd)) h2.1 h2.2.1
  ·rw [if_neg hc] at h4; cases h4
 ·rename_i z0 e2 gn2 hs hy
  obtain ⟨z, k2, h4⟩ := Option.bind_eq_some_iff.1 h1
  clear h1
  by_cases hc : z.gen = gn2 /\ z.on = true /\ e2 ≠ d * 32
  ·rw [if_pos hc] at h4
   obtain ⟨rfl, c2, c3⟩ := hc
   simp only [Option.some.injEq, Prod.mk.injEq] at h4
   obtain ⟨rfl, rfl, rfl, rfl⟩ := h4
   obtain ⟨dp2, sz2, rows2, gn2, on2⟩ := z
   simp only at c2
   subst c2
   exact s_apNO ⟨hs, rd_ow hy, h2.2.2, k2, c3⟩ h2.1 h2.2.1
  ·rw [if_neg hc] at h4; cases h4
 ·rename_i z0 sz rows2 hs hy
  simp only [Option.some.injEq, Prod.mk.injEq] at h1
  obtain ⟨rfl, rfl, rfl, rfl⟩ := h1
  exact s_apNT dp2 ⟨hs, hy, h2.2.2.2⟩ (fun hd => zgj (h2.2.2.1 hd)) h2.1 h2.2.1
 ·cases h1
theorem apD (dp2 : Bool) (h : zao (apV P σ d t s y dp2) fun r => r.1) (k : exo P ops os ks Q (σ.apV d (apV P σ d t s y dp2))) :
  exo P ops (⟨some d, .call ⟨.builtin .append, #[s, y], #[t, t]⟩, ty, ps, af, none⟩ :: os) ks Q σ := zeb rfl rfl (zri dp2 h) k
end
attribute [go_sem] List.nodup_nil List.nodup_cons List.mem_cons List.not_mem_nil not_false_eq_true List.size_toArray zdd blD St.bl apV St.apV flR litC znj
end Go.Proofs.Yteeaofpphmhjdaa
namespace Go.Proofs.Yteeaofpphmhjdaa
set_option linter.unusedSimpArgs false
set_option linter.unusedVariables false
set_option linter.unusedSectionVars false
set_option maxRecDepth 4000
open Go.RowKit
variable {P : Program}
def T.nm : T -> Bool
 | .fn _ [] => true
 | t => t.flat
def nmV : V -> D -> Prop
 | .one (.t x), .one y => x = y /\ T.nm y = true
 | .one (.fn f []), .one (.fn g []) => f = g
 | _, _ => False
theorem zf6 {w w' : World} {A A' : Nat -> Prop} {x : T} {v : Value} (hf : x.flat = true) (h : zah w A x v) : zah w' A' x v := by
 cases x <;> simp only [T.flat, Bool.false_eq_true] at hf <;> unfold zah at h ⊢ <;> exact h
theorem zfp {σ : St} {g : Gh} {w : World} {x : V} {d : D} {v : Value} (h : nmV x d) (hv : VR σ g w x v) (A : Nat -> Prop) : zny w A d v := by
 unfold nmV at h
 split at h
 ·obtain ⟨rfl, h⟩ := h
  unfold T.nm at h
  split at h
  ·simp only [VR, CR] at hv
   unfold zah at hv
   obtain ⟨vs, e, h2⟩ := hv
   unfold zaa at h2
   subst h2
   show zah _ _ _ _
   unfold zah
   exact ⟨[], e, by unfold zaa; rfl⟩
  ·exact zf6 h hv
 ·subst h
  obtain ⟨e, _⟩ := hv
  show zah _ _ _ _
  unfold zah
  exact ⟨[], e, by unfold zaa; rfl⟩
 ·exact h.elim
theorem zaw.flat {w : World} {cells : Array Value} : ∀ {r : List T} {o : Nat} {fps : List Nat}, r.all T.flat = true -> zaw w cells o r fps -> fps = []
 | [], _, _, _, h => by unfold zaw at h; exact h
 | t :: r, o, fps, hf, h => by
  rw [List.all_cons, Bool.and_eq_true] at hf
  unfold zaw at h
  obtain ⟨v, f1, f2, _, rfl, h1, h2⟩ := h
  rw [zaw.flat hf.2 h2, List.append_nil]
  have hf1 := hf.1
  cases t <;> simp only [T.flat, Bool.false_eq_true] at hf1 <;> unfold zan at h1
  ·exact h1.2.2.2
  ·exact h1.2
  ·exact h1.2.2
  ·exact h1.2
theorem zad.flat {w : World} {cells : Array Value} {sz : Nat} : ∀ {rows : List (List T)} {o : Nat} {fps : List Nat}, flR rows = true -> zad w cells o sz rows fps -> fps = []
 | [], _, _, _, h => by unfold zad at h; exact h
 | r :: rows, o, fps, hf, h => by
  unfold flR at hf
  rw [Bool.and_eq_true] at hf
  unfold zad at h
  obtain ⟨_, f1, f2, rfl, h1, h2⟩ := h
  rw [zaw.flat hf.1 h1, zad.flat hf.2 h2, List.append_nil]
end Go.Proofs.Yteeaofpphmhjdaa
namespace Go.Proofs.Yteeaofpphmhjdaa
set_option linter.unusedSimpArgs false
set_option linter.unusedVariables false
set_option linter.unusedSectionVars false
set_option maxRecDepth 4000
open Go.RowKit
variable {P : Program}
attribute [go_sem] nmV T.nm List.drop_succ_cons List.take_zero List.take_succ_cons List.headD_cons Option.getD_some
end Go.Proofs.Yteeaofpphmhjdaa
namespace Go.Proofs.Yteeaofpphmhjdaa
set_option linter.unusedSimpArgs false
set_option linter.unusedVariables false
set_option linter.unusedSectionVars false
set_option maxRecDepth 4000
open Go.RowKit
variable {P : Program}
def zhi : T -> T
 | .pin _ t => t
 | t => t
def zcu (rs : List (List T)) : List (List T) := rs.map fun r => r.map zhi
theorem zan.unpin {w : World} : ∀ {t : T} {v : Value} {fp : List Nat}, zan w t v fp -> zan w (zhi t) v fp
 | .pin _ _, _, _, h => by unfold zan at h; exact h.2
 | .int _ _, _, _, h => h
 | .bool _, _, _, h => h
 | .str _, _, _, h => h
 | .sl _ _, _, _, h => h
 | .ptr _, _, _, h => h
 | .fn _ _, _, _, h => h
 | .mp _ _, _, _, h => h
 | .vs _ _ _, _, _, h => h
theorem zaw.unpin {w : World} {cells : Array Value} : ∀ {cs : List T} {o : Nat} {fps : List Nat}, zaw w cells o cs fps -> zaw w cells o (cs.map zhi) fps
 | [], _, _, h => h
 | c :: cs, o, fps, h => by
  unfold zaw at h
  obtain ⟨v, f1, f2, h1, rfl, h2, h3⟩ := h
  rw [List.map_cons]
  unfold zaw
  exact ⟨v, f1, f2, h1, rfl, h2.unpin, h3.unpin⟩
theorem zad.unpin {w : World} {cells : Array Value} {sz : Nat} : ∀ {rows : List (List T)} {o : Nat} {fps : List Nat}, zad w cells o sz rows fps -> zad w cells o sz (zcu rows) fps
 | [], _, _, h => h
 | r :: rs, o, fps, h => by
  unfold zad at h
  obtain ⟨h1, f1, f2, rfl, h2, h3⟩ := h
  show zad w cells o sz (r.map zhi :: zcu rs) (f1 ++ f2)
  unfold zad
  exact ⟨by simpa using h1, f1, f2, rfl, h2.unpin, h3.unpin⟩
theorem zan.unpins {w : World} {sz : Nat} {rows : List (List T)} {v : Value} {fp : List Nat} (h : zan w (.sl sz rows) v fp) : zan w (.sl sz (zcu rows)) v fp := by
 unfold zan at h ⊢
 have hl : (zcu rows).length = rows.length := by simp [zcu]
 obtain ⟨ao, cap, h1, h2, h3, h4⟩ := h
 refine ⟨ao, cap, by rw [hl]; exact h1, by rw [hl]; exact h2, h3, ?_⟩
 rcases h4 with ⟨k1, k2, rfl, k4⟩ | ⟨b, cells, ty, fps, k1, k2, k3, k4, k5⟩
 ·exact Or.inl ⟨k1, k2, rfl, k4⟩
 ·exact Or.inr ⟨b, cells, ty, fps, k1, k2, k3, k4, k5.unpin⟩
def onN (x : Option Ev) (i j : Nat) (v : Value) (t : T) : Prop := zao x fun y => y.on = true /\ y.deep = true /\ y.rows[i]?.isSome = true /\ (y.rows.getD i [])[j]? = some (.pin v t)
attribute [go_sem] onN
end Go.Proofs.Yteeaofpphmhjdaa
namespace Go.Proofs.Yteeaofpphmhjdaa
set_option linter.unusedSimpArgs false
set_option linter.unusedVariables false
set_option linter.unusedSectionVars false
set_option maxRecDepth 4000
open Go.RowKit
variable {P : Program}
abbrev Sr := Nat × Option (Nat × Nat)
def okQ : Option (Nat × Nat) -> Option (Nat × Nat) -> Bool
 | some a, some b => !(a.1 == b.1 && a.2 == b.2)
 | _, _ => false
def okS : List Sr -> Sr -> Bool
 | [], _ => true
 | (e, p) :: u, (e', p') => (if e = e' then okQ p p' else true) && okS u (e', p')
def owU (x : Option Ev) (sz : Nat) (rows : List (List T)) (g : Nat) : Prop := zao x fun y => y.deep = true /\ y.sz = sz /\ (y.rows = rows \/ zcu y.rows = rows) /\ y.gen = g /\ y.on = true
def gvT (σ : St) (K : List Sr -> List (Nat × Nat × Nat) -> Prop) (u : List Sr) (ps : List (Nat × Nat × Nat)) (x t : T) : Prop := match x, ps with
 | .pin v y, (e, i, j) :: ps => y = t /\ okS u (e, some (i, j)) = true /\ onN (σ.ev e) i j v t /\ K ((e, some (i, j)) :: u) ps
 | x, ps => x = t /\ t.flat = true /\ K u ps
theorem zo9 {σ : St} {K K' : List Sr -> List (Nat × Nat × Nat) -> Prop} (hK : ∀ u ps, K u ps -> K' u ps) {u : List Sr} {ps : List (Nat × Nat × Nat)} {x t : T} (h : gvT σ K u ps x t) : gvT σ K' u ps x t := by
 unfold gvT at h ⊢
 split at h
 ·exact ⟨h.1, h.2.1, h.2.2.1, hK _ _ h.2.2.2⟩
 ·exact ⟨h.1, h.2.1, hK _ _ h.2.2⟩
def gvK (σ : St) (K : List Sr -> List (Nat × Nat × Nat) -> Prop) : List Sr -> List (Nat × Nat × Nat) -> List C -> List T -> Prop
 | u, ps, [], [] => K u ps
 | u, ps, .t x :: cs, t :: ts => gvT σ (fun u ps => gvK σ K u ps cs ts) u ps x t
 | u, ps, .nl _ :: cs, .sl _ rows :: ts => rows = [] /\ gvK σ K u ps cs ts
 | u, ps, .ow e g :: cs, .sl sz rows :: ts => okS u (e, none) = true /\ owU (σ.ev e) sz rows g /\ gvK σ K ((e, none) :: u) ps cs ts
 | u, (e, i, j) :: ps, .cv v :: cs, t :: ts => okS u (e, some (i, j)) = true /\ onN (σ.ev e) i j v t /\ gvK σ K ((e, some (i, j)) :: u) ps cs ts
 | _, _, _, _ => False
def rdC : C -> T -> Prop
 | .t x, y => x = y /\ T.nm y = true
 | .fn f [], .fn g [] => f = g
 | .rn x, y => x = y
 | .er cs o, .ptr cs' => o = 0 /\ cs = cs'
 | .nl _, .sl _ rows => rows = []
 | _, _ => False
def rdCs : List C -> List T -> Prop
 | [], [] => True
 | c :: cs, t :: ts => rdC c t /\ rdCs cs ts
 | _, _ => False
def rdV : V -> D -> Prop
 | .one c, .one t => rdC c t
 | .agg cs, .agg ts => rdCs cs ts
 | _, _ => False
def gvA (σ : St) (K : List Sr -> Prop) : List Sr -> List (Nat × Nat × Nat) -> List V -> List (Bool × D) -> Prop
 | u, _, [], [] => K u
 | u, ps, v :: vs, (false, d) :: ds => rdV v d /\ gvA σ K u ps vs ds
 | u, ps, .one c :: vs, (true, .one t) :: ds => gvK σ (fun u ps => gvA σ K u ps vs ds) u ps [c] [t]
 | u, ps, .agg cs :: vs, (true, .agg ts) :: ds => gvK σ (fun u ps => gvA σ K u ps vs ds) u ps cs ts
 | _, _, _, _ => False
theorem zch {σ : St} {K K' : List Sr -> List (Nat × Nat × Nat) -> Prop} (hK : ∀ u ps, K u ps -> K' u ps) : ∀ {cs : List C} {ts : List T} {u : List Sr} {ps : List (Nat × Nat × Nat)}, gvK σ K u ps cs ts -> gvK σ K' u ps cs ts
 | [], [], _, _, h => hK _ _ h
 | [], _ :: _, _, _, h => by cases h
 | c :: cs, [], u, ps, h => by cases c <;> first | exact (show False from h).elim | (cases ps <;> exact (show False from h).elim)
 | c :: cs, t :: ts, u, ps, h => by
  unfold gvK at h ⊢
  split at h
  ·rename_i e1 e2; cases e1
  ·rename_i e1 e2; cases e1; cases e2; exact zo9 (fun u ps h => zch hK h) h
  ·rename_i e1 e2; cases e1; cases e2; exact ⟨h.1, zch hK h.2⟩
  ·rename_i e1 e2; cases e1; cases e2; exact ⟨h.1, h.2.1, zch hK h.2.2⟩
  ·rename_i e1 e2; cases e1; cases e2; exact ⟨h.1, h.2.1, zch hK h.2.2⟩
  ·exact h.elim
theorem zd4 {σ : St} {K K' : List Sr -> Prop} (hK : ∀ u, K u -> K' u) : ∀ {xs : List V} {ds : List (Bool × D)} {u : List Sr} {ps : List (Nat × Nat × Nat)}, gvA σ K u ps xs ds -> gvA σ K' u ps xs ds
 | [], [], _, _, h => hK _ h
 | [], _ :: _, _, _, h => h.elim
 | x :: xs, [], _, _, h => by cases x <;> exact h.elim
 | x :: xs, (false, d) :: ds, _, _, h => by unfold gvA at h ⊢; exact ⟨h.1, zd4 hK h.2⟩
 | .one c :: xs, (true, .one t) :: ds, _, _, h => by unfold gvA at h ⊢; exact zch (fun u ps hu => zd4 hK hu) h
 | .agg cs :: xs, (true, .agg ts) :: ds, _, _, h => by unfold gvA at h ⊢; exact zch (fun u ps hu => zd4 hK hu) h
 | .one _ :: _, (true, .agg _) :: _, _, _, h => h.elim
 | .agg _ :: _, (true, .one _) :: _, _, _, h => h.elim
 | .tup _ :: _, (true, d) :: _, _, _, h => by cases d <;> exact h.elim
theorem zaj.fam {w : World} : ∀ {cs : List T} {vs : List Value} {fps : List Nat}, zaj w cs vs fps -> ∃ F : Nat -> List Nat, (∀ k c, cs[k]? = some c -> ∃ v, vs[k]? = some v /\ zan w c v (F k)) /\ (∀ k b, b ∈ F k -> b ∈ fps) /\ (fps.Nodup -> (∀ k, (F k).Nodup) /\ ∀ k k', k ≠ k' -> ∀ b ∈ F k, b ∉ F k')
 | [], vs, fps, h => ⟨fun _ => [], fun k c hc => by simp at hc, by simp, fun _ => ⟨by simp, by simp⟩⟩
 | c :: cs, _, _, h => by
  obtain ⟨v, vs', f1, f2, rfl, rfl, h1, h2⟩ := h
  obtain ⟨F, k1, k2, k3⟩ := zaj.fam h2
  refine ⟨fun k => match k with | 0 => f1 | k + 1 => F k, fun k c' hc => ?_, fun k b hb => ?_, fun hn => ?_⟩
  ·cases k with
   | zero => simp only [List.getElem?_cons_zero, Option.some.injEq] at hc; subst hc; exact ⟨v, rfl, h1⟩
   | succ k => exact k1 k c' (by simpa using hc)
  ·cases k with
   | zero => exact List.mem_append_left _ hb
   | succ k => exact List.mem_append_right _ (k2 k b hb)
  ·obtain ⟨n1, n2, n3⟩ := List.nodup_append.1 hn
   obtain ⟨m1, m2⟩ := k3 n2
   refine ⟨fun k => ?_, fun k k' hne b hb hb' => ?_⟩
   ·cases k with
    | zero => exact n1
    | succ k => exact m1 k
   ·cases k with
    | zero =>
     cases k' with
     | zero => exact hne rfl
     | succ k' => exact n3 b hb b (k2 k' b hb') rfl
    | succ k =>
     cases k' with
     | zero => exact n3 b hb' b (k2 k b hb) rfl
     | succ k' => exact m2 k k' (by omega) b hb hb'
theorem zko {sz : Nat} : ∀ {rows : List (List T)} {i j : Nat} {r : List T} {c : T}, lens sz rows -> rows[i]? = some r -> r[j]? = some c -> rows.flatten[i * sz + j]? = some c
 | [], _, _, _, _, _, h, _ => by simp at h
 | d :: rows, 0, j, r, c, hl, hr, hc => by
  simp only [List.getElem?_cons_zero, Option.some.injEq] at hr
  subst hr
  have hj : j < d.length := by
   rcases Nat.lt_or_ge j d.length with h | h
   ·exact h
   ·rw [List.getElem?_eq_none h] at hc; cases hc
  rw [List.flatten_cons, List.getElem?_append_left (by omega)]
  simpa using hc
 | d :: rows, i + 1, j, r, c, hl, hr, hc => by
  have hd : d.length = sz := hl d (by simp)
  have := zko (sz := sz) (rows := rows) (fun r hr => hl r (by simp [hr])) (by simpa using hr) hc
  rw [List.flatten_cons, List.getElem?_append_right (by rw [hd, Nat.add_mul]; omega)]
  rwa [show (i + 1) * sz + j - d.length = i * sz + j by rw [hd, Nat.add_mul]; omega]
structure Fam (w : World) (σ : St) (g : Gh) (B : Sr -> List Nat) : Prop where
 whole : ∀ e, B (e, none) = g.φ e
 cell : ∀ e i j v t, onN (σ.ev e) i j v t -> zan w t v (B (e, some (i, j)))
 sub : ∀ e p b, σ.On e -> b ∈ B (e, p) -> b ∈ g.φ e
 nodup : ∀ e p, σ.On e -> (B (e, p)).Nodup
 apart : ∀ e p p', σ.On e -> p ≠ p' -> ∀ b ∈ B (e, some p), b ∉ B (e, some p')
theorem Rel.fam {n0 : Nat -> Prop} {N : Nat} {σ : St} {g : Gh} {a : Act} {w : World} (hR : Rel n0 N σ g a w) : ∃ B, Fam w σ g B := by
 have h1 : ∀ e, ∃ F : Nat × Nat -> List Nat, ∀ dp sz rows gn, σ.ev e = some ⟨dp, sz, rows, gn, true⟩ -> ((dp = true -> ∀ i j v t, rows[i]?.isSome = true -> (rows.getD i [])[j]? = some (.pin v t) -> zan w t v (F (i, j))) /\ (∀ p b, b ∈ F p -> b ∈ g.φ e) /\ (∀ p, (F p).Nodup) /\ ∀ p p', p ≠ p' -> ∀ b ∈ F p, b ∉ F p') := by
  intro e
  by_cases hon : ∃ sz rows gn, σ.ev e = some ⟨true, sz, rows, gn, true⟩
  ·obtain ⟨sz, rows, gn, he⟩ := hon
   have hnd := hR.nodup e ⟨_, he, rfl⟩
   obtain ⟨ao, cap, vs, k1, k2, k3, k4, k5, k6, k7⟩ := hR.vals he rfl
   rcases k7 with ⟨_, _, k7, k8⟩ | ⟨b, cells, ty, fps, k7, k8, k9, k10, k11, k12, k13⟩
   ·refine ⟨fun _ => [], fun dp sz' rows' gn' he' => ?_⟩
    rw [he, Option.some.injEq] at he'
    cases he'
    have k7 : rows = [] := k7
    subst k7
    exact ⟨fun _ i j v t h => by simp at h, by simp, by simp, by simp⟩
   ·obtain ⟨F, f1, f2, f3⟩ := (k12 rfl).fam
    rw [k8] at hnd
    obtain ⟨m1, m2⟩ := f3 (List.nodup_cons.1 hnd).2
    refine ⟨fun p => if p.2 < sz /\ p.1 < rows.length then F (p.1 * sz + p.2) else [], fun dp sz' rows' gn' he' => ?_⟩
    rw [he, Option.some.injEq] at he'
    cases he'
    refine ⟨fun _ i j v t h1 h2 => ?_, fun p b hb => ?_, fun p => ?_, fun p p' hne b hb hb' => ?_⟩
    ·obtain ⟨r, hr⟩ := Option.isSome_iff_exists.1 h1
     have hg : rows.getD i [] = r := by rw [List.getD_eq_getElem?_getD, hr]; rfl
     rw [hg] at h2
     have hj : j < sz := by
      have : r.length = sz := k4 r (List.mem_of_getElem? hr)
      rcases Nat.lt_or_ge j r.length with h | h
      ·omega
      ·rw [List.getElem?_eq_none h] at h2; cases h2
     have hi : i < rows.length := (List.getElem?_eq_some_iff.1 hr).1
     obtain ⟨u, _, hu⟩ := f1 _ _ (zko k4 hr h2)
     show zan w t v (if j < sz /\ i < rows.length then F (i * sz + j) else [])
     rw [if_pos ⟨hj, hi⟩]
     unfold zan at hu
     obtain ⟨rfl, hu⟩ := hu
     exact hu
    ·by_cases hp : p.2 < sz /\ p.1 < rows.length
     ·simp only [if_pos hp] at hb; rw [k8]; exact List.mem_cons_of_mem _ (f2 _ _ hb)
     ·simp only [if_neg hp] at hb; simp at hb
    ·by_cases hp : p.2 < sz /\ p.1 < rows.length
     ·simp only [if_pos hp]; exact m1 _
     ·simp only [if_neg hp]; simp
    ·by_cases hp : p.2 < sz /\ p.1 < rows.length
     ·by_cases hp' : p'.2 < sz /\ p'.1 < rows.length
      ·simp only [if_pos hp, if_pos hp'] at hb hb'
       refine m2 _ _ (fun heq => hne ?_) b hb hb'
       obtain ⟨i, j⟩ := p
       obtain ⟨i', j'⟩ := p'
       simp only at hp hp' heq
       have hii : i = i' := by
        rcases Nat.lt_trichotomy i i' with h | h | h
        ·have := Nat.mul_le_mul_right sz (show i + 1 <= i' by omega); rw [Nat.add_mul] at this; omega
        ·exact h
        ·have := Nat.mul_le_mul_right sz (show i' + 1 <= i by omega); rw [Nat.add_mul] at this; omega
       subst hii
       have : j = j' := by omega
       subst this; rfl
      ·simp only [if_neg hp'] at hb'; simp at hb'
     ·simp only [if_neg hp] at hb; simp at hb
  ·refine ⟨fun _ => [], fun dp sz rows gn he => ⟨fun hd => ?_, by simp, by simp, by simp⟩⟩
   subst hd
   exact absurd ⟨sz, rows, gn, he⟩ hon
 refine ⟨fun s => match s.2 with | none => g.φ s.1 | some p => Classical.choose (h1 s.1) p, ⟨fun e => rfl, fun e i j v t ho => ?_, fun e p b ho hb => ?_, fun e p ho => ?_, fun e p p' ho hne b hb => ?_⟩⟩
 ·obtain ⟨⟨dp, sz, rows, gn, on⟩, he, h2, h3, h4, h5⟩ := zam ho
  simp only at h2 h3
  subst h2 h3
  exact (Classical.choose_spec (h1 e) true sz rows gn he).1 rfl i j v t h4 h5
 ·cases p with
  | none => exact hb
  | some p =>
   obtain ⟨⟨dp, sz, rows, gn, on⟩, he, ho⟩ := ho
   simp only at ho
   subst ho
   exact (Classical.choose_spec (h1 e) dp sz rows gn he).2.1 p b hb
 ·cases p with
  | none => exact hR.nodup e ho
  | some p =>
   obtain ⟨⟨dp, sz, rows, gn, on⟩, he, ho⟩ := ho
   simp only at ho
   subst ho
   exact (Classical.choose_spec (h1 e) dp sz rows gn he).2.2.1 p
 ·obtain ⟨⟨dp, sz, rows, gn, on⟩, he, ho⟩ := ho
  simp only at ho
  subst ho
  exact (Classical.choose_spec (h1 e) dp sz rows gn he).2.2.2 p p' hne b hb
def bks (B : Sr -> List Nat) (u : List Sr) : List Nat := u.flatMap B
def okP (s s' : Sr) : Prop := s.1 ≠ s'.1 \/ (s.2 ≠ none /\ s'.2 ≠ none /\ s.2 ≠ s'.2)
theorem okP.symm {s s' : Sr} (h : okP s s') : okP s' s := h.imp (fun h => Ne.symm h) fun h => ⟨h.2.1, h.1, Ne.symm h.2.2⟩
theorem zjb : ∀ {u : List Sr} {s : Sr}, okS u s = true -> ∀ x ∈ u, okP s x
 | [], _, _, x, hx => by simp at hx
 | (e, p) :: u, (e', p'), h, x, hx => by
  unfold okS at h
  rw [Bool.and_eq_true] at h
  rcases List.mem_cons.1 hx with rfl | hx
  ·have h1 := h.1
   by_cases he : e = e'
   ·rw [if_pos he] at h1
    right
    unfold okQ at h1
    split at h1
    ·rename_i a b
     refine ⟨by simp, by simp, fun e => ?_⟩
     simp only [Option.some.injEq] at e
     subst e
     simp at h1
    ·cases h1
   ·left; exact Ne.symm he
  ·exact zjb h.2 x hx
theorem zce {n0 : Nat -> Prop} {N : Nat} {σ : St} {g : Gh} {a : Act} {w : World} (hR : Rel n0 N σ g a w) {B : Sr -> List Nat} (hB : Fam w σ g B) : ∀ {s : List Sr}, (∀ x ∈ s, σ.On x.1) -> s.Pairwise okP -> (bks B s).Nodup
 | [], _, _ => List.nodup_nil
 | x :: s, ho, hp => by
  obtain ⟨p1, p2⟩ := List.pairwise_cons.1 hp
  unfold bks
  rw [List.flatMap_cons]
  refine List.nodup_append.2 ⟨hB.nodup x.1 x.2 (ho x (by simp)), zce hR hB (fun y hy => ho y (by simp [hy])) p2, fun b hb b' hb' hbb => ?_⟩
  subst hbb
  obtain ⟨y, hy, hb'⟩ := List.mem_flatMap.1 hb'
  obtain ⟨e, p⟩ := x
  obtain ⟨e', p'⟩ := y
  have o1 := ho (e, p) (by simp)
  have o2 := ho (e', p') (by simp [hy])
  rcases p1 (e', p') hy with h | ⟨h1, h2, h3⟩
  ·exact hR.apart e e' o1 o2 h b (hB.sub e p b o1 hb) (hB.sub e' p' b o2 hb')
  ·by_cases hee : e = e'
   ·subst hee
    cases p with
    | none => exact h1 rfl
    | some p =>
     cases p' with
     | none => exact h2 rfl
     | some p' => exact hB.apart e p p' o1 (fun h => h3 (by rw [h])) b hb hb'
   ·exact hR.apart e e' o1 o2 hee b (hB.sub e p b o1 hb) (hB.sub e' p' b o2 hb')
theorem zq3 {σ : St} {e i j : Nat} {v : Value} {t : T} (h : onN (σ.ev e) i j v t) : σ.On e := by
 obtain ⟨x, hx, h2, _⟩ := zam h
 exact ⟨x, hx, h2⟩
section
variable {n0 : Nat -> Prop} {N : Nat} {σ : St} {g : Gh} {a : Act} {w : World} (hR : Rel n0 N σ g a w) {B : Sr -> List Nat} (hB : Fam w σ g B)
include hR hB
theorem zbd {K : List Sr -> List (Nat × Nat × Nat) -> Prop} : ∀ {cs : List C} {ts : List T} {u : List Sr} {ps : List (Nat × Nat × Nat)} {vs : List Value}, gvK σ K u ps cs ts -> CRs σ g w cs vs →
  ∃ s ps' tp, K (s.reverse ++ u) ps' /\ zpc w ts vs (bks B s) tp /\ (∀ x ∈ s, σ.On x.1) /\ (u.Pairwise okP -> (s.reverse ++ u).Pairwise okP)
 | [], [], u, ps, vs, h, hv => ⟨[], ps, [], h, ⟨hv, rfl, rfl⟩, by simp, fun h => h⟩
 | [], _ :: _, _, _, _, h, _ => by cases h
 | c :: cs, [], u, ps, vs, h, hv => by cases c <;> first | exact (show False from h).elim | (cases ps <;> exact (show False from h).elim)
 | c :: cs, t :: ts, u, ps, vs, h, hv => by
  obtain ⟨v, vs', rfl, h1, h2⟩ := hv
  unfold gvK at h
  split at h
  ·rename_i e1 e2; cases e1
  ·rename_i x cs' t' ts' e1 e2
   cases e1; cases e2
   unfold gvT at h
   split at h
   ·rename_i v0 y e i j ps0
    obtain ⟨rfl, hok, he, h⟩ := h
    obtain ⟨s, ps', tp, k1, k2, k3, k4⟩ := zbd h h2
    unfold CR zah at h1
    obtain ⟨rfl, _⟩ := h1
    have ho := hB.cell e i j v y he
    refine ⟨(e, some (i, j)) :: s, ps', zgp y (B (e, some (i, j))) ++ tp, by simpa using k1, ⟨v, vs', _, bks B s, tp, rfl, by unfold bks; rw [List.flatMap_cons], rfl, ho, k2⟩, fun x hx => ?_, fun hu => ?_⟩
    ·rcases List.mem_cons.1 hx with rfl | hx
     ·exact zq3 he
     ·exact k3 x hx
    ·have := k4 (List.pairwise_cons.2 ⟨zjb hok, hu⟩)
     simpa using this
   obtain ⟨rfl, hf, h⟩ := h
   obtain ⟨s, ps', tp, k1, k2, k3, k4⟩ := zbd h h2
   have ho : zan w x v [] := by
    cases x <;> simp only [T.flat, Bool.false_eq_true] at hf <;> simp only [CR, zah] at h1 <;> unfold zan
    ·exact ⟨h1.1, h1.2.1, h1.2.2, rfl⟩
    ·exact ⟨h1, rfl⟩
    ·exact ⟨h1.1, h1.2, rfl⟩
    ·exact ⟨h1, rfl⟩
   exact ⟨s, ps', zgp x [] ++ tp, k1, ⟨v, vs', [], _, tp, rfl, rfl, rfl, ho, k2⟩, k3, k4⟩
  ·rename_i z cs' sz rows ts' e1 e2
   cases e1; cases e2
   obtain ⟨rfl, h⟩ := h
   obtain ⟨s, ps', tp, k1, k2, k3, k4⟩ := zbd h h2
   have ho : zan w (.sl sz []) v [] := by
    unfold zan
    exact ⟨none, 0, h1, by simp, by simp, Or.inl ⟨rfl, rfl, rfl, rfl⟩⟩
   exact ⟨s, ps', zgp (.sl sz []) [] ++ tp, k1, ⟨v, vs', [], _, tp, rfl, rfl, rfl, ho, k2⟩, k3, k4⟩
  ·rename_i e gn cs' sz rows ts' e1 e2
   cases e1; cases e2
   obtain ⟨hok, he, h⟩ := h
   obtain ⟨s, ps', tp, k1, k2, k3, k4⟩ := zbd h h2
   have hou := he
   obtain ⟨⟨dp, sz0, rows0, gn0, on0⟩, hev, rfl, rfl, hrows, rfl, rfl⟩ := zam hou
   have ho : zan w (.sl sz0 rows) (g.ψ e gn0) (g.φ e) := by
    rcases hrows with rfl | rfl
    ·exact zet hR hev
    ·exact (zet hR hev).unpins
   have h1 : v = g.ψ e gn0 /\ _ := h1
   rw [<- h1.1] at ho
   refine ⟨(e, none) :: s, ps', zgp (.sl _ _) (g.φ e) ++ tp, by simpa using k1, ⟨v, vs', g.φ e, bks B s, tp, rfl, by unfold bks; rw [List.flatMap_cons, hB.whole], rfl, ho, k2⟩, fun x hx => ?_, fun hu => ?_⟩
   ·rcases List.mem_cons.1 hx with rfl | hx
    ·exact ⟨_, hev, rfl⟩
    ·exact k3 x hx
   ·have := k4 (List.pairwise_cons.2 ⟨zjb hok, hu⟩)
    simpa using this
  ·rename_i e i j ps0 v0 cs' t' ts' e1 e2
   cases e1; cases e2
   obtain ⟨hok, he, h⟩ := h
   obtain ⟨s, ps', tp, k1, k2, k3, k4⟩ := zbd h h2
   have h1 : v = v0 := h1
   subst h1
   have ho := hB.cell e i j v t he
   refine ⟨(e, some (i, j)) :: s, ps', zgp t (B (e, some (i, j))) ++ tp, by simpa using k1, ⟨v, vs', _, bks B s, tp, rfl, by unfold bks; rw [List.flatMap_cons], rfl, ho, k2⟩, fun x hx => ?_, fun hu => ?_⟩
   ·rcases List.mem_cons.1 hx with rfl | hx
    ·exact zq3 he
    ·exact k3 x hx
   ·have := k4 (List.pairwise_cons.2 ⟨zjb hok, hu⟩)
    simpa using this
  ·exact h.elim
omit hB in
theorem zno {FP : List Nat} (hFP : ∀ b ∈ FP, ∃ e, σ.On e /\ b ∈ g.φ e) {c : C} {t : T} {v : Value} (h : rdC c t) (hv : CR σ g w c v) : zah w (fun b => b < w.heap.size /\ b ∉ FP) t v := by
 unfold rdC at h
 split at h
 ·rename_i x
  obtain ⟨rfl, hn⟩ := h
  exact zfp (σ := σ) (g := g) (x := .one (.t x)) (d := .one x) ⟨rfl, hn⟩ hv _
 ·rename_i f f'
  subst h
  exact zfp (σ := σ) (g := g) (x := .one (.fn f [])) (d := .one (.fn f [])) rfl hv _
 ·subst h
  refine zah.keep (fun _ _ => rfl) (fun b hb => ⟨hb.1.2.2.1, fun hm => ?_⟩) _ v hv
  obtain ⟨e, ho, hm⟩ := hFP b hm
  exact hb.2 e ho hm
 ·obtain ⟨rfl, rfl⟩ := h
  obtain ⟨b, q, h1, h2, h3⟩ := hv
  have hk : ∀ b, zcx σ g w b -> b < w.heap.size /\ b ∉ FP := fun b hb => ⟨hb.1.2.2.1, fun hm => by obtain ⟨e, ho, hm⟩ := hFP b hm; exact hb.2 e ho hm⟩
  unfold zah
  exact ⟨b, q, h1, hk b h2, zau.keep (fun _ _ => rfl) hk b rfl q _ h3⟩
 ·subst h
  rw [show v = .slice none 0 0 from hv]
  unfold zah
  exact ⟨none, 0, rfl, by simp, by simp, Or.inl rfl⟩
 ·exact h.elim
omit hB in
theorem zjo {FP : List Nat} (hFP : ∀ b ∈ FP, ∃ e, σ.On e /\ b ∈ g.φ e) : ∀ {cs : List C} {ts : List T} {vs : List Value}, rdCs cs ts -> CRs σ g w cs vs -> zaa w (fun b => b < w.heap.size /\ b ∉ FP) ts vs
 | [], [], vs, _, hv => by unfold zaa; exact hv
 | [], _ :: _, _, h, _ => h.elim
 | _ :: _, [], _, h, _ => h.elim
 | c :: cs, t :: ts, vs, h, hv => by
  obtain ⟨v, vs', rfl, h1, h2⟩ := hv
  unfold zaa
  exact ⟨v, vs', rfl, zno hR hFP h.1 h1, zjo hFP h.2 h2⟩
theorem zc4 {K : List Sr -> Prop} : ∀ {xs : List V} {ds : List (Bool × D)} {u : List Sr} {ps : List (Nat × Nat × Nat)} {vs : List Value}, gvA σ K u ps xs ds -> VRl σ g w xs vs →
  ∃ s, K (s.reverse ++ u) /\ (∀ FP : List Nat, (∀ b ∈ FP, ∃ e, σ.On e /\ b ∈ g.φ e) -> ∃ tp, zal w (fun b => b < w.heap.size /\ b ∉ FP) ds vs (bks B s) tp) /\ (∀ x ∈ s, σ.On x.1) /\ (u.Pairwise okP -> (s.reverse ++ u).Pairwise okP)
 | [], [], u, ps, vs, h, hv => ⟨[], h, fun _ _ => ⟨[], hv, rfl, rfl⟩, by simp, fun h => h⟩
 | [], _ :: _, _, _, _, h, _ => h.elim
 | x :: xs, [], _, _, _, h, _ => by cases x <;> exact h.elim
 | x :: xs, (false, d) :: ds, u, ps, vs, h, hv => by
  obtain ⟨v, vs', rfl, h1, h2⟩ := hv
  unfold gvA at h
  obtain ⟨hr, h⟩ := h
  obtain ⟨s, k1, k2, k3, k4⟩ := zc4 h h2
  refine ⟨s, k1, fun FP hFP => ?_, k3, k4⟩
  obtain ⟨tp, k2⟩ := k2 FP hFP
  refine ⟨tp, v, vs', rfl, ?_, k2⟩
  unfold rdV at hr
  split at hr
  ·exact zno hR hFP hr h1
  ·obtain ⟨b, e, h1⟩ := h1; exact ⟨b, e, zjo hR hFP hr h1⟩
  ·exact hr.elim
 | .one c :: xs, (true, .one t) :: ds, u, ps, vs, h, hv => by
  obtain ⟨v, vs', rfl, h1, h2⟩ := hv
  unfold gvA at h
  obtain ⟨s, ps', tp, k1, k2, k3, k4⟩ := zbd hR hB h (vs := [v]) ⟨v, [], rfl, h1, rfl⟩
  obtain ⟨s', j1, j2, j3, j4⟩ := zc4 k1 h2
  obtain ⟨v0, vs0, f1, f2, t2, e0, e1, rfl, q1, q2⟩ := k2
  cases e0
  obtain ⟨_, rfl, rfl⟩ := q2
  rw [List.append_nil] at e1
  refine ⟨s ++ s', by simpa using j1, fun FP hFP => ?_, fun x hx => ?_, fun hu => by simpa using j4 (k4 hu)⟩
  ·obtain ⟨tp', j2⟩ := j2 FP hFP
   exact ⟨zgp t f1 ++ tp', v, vs', bks B s, bks B s', _, tp', rfl, by unfold bks; rw [List.flatMap_append], rfl, ⟨by rw [e1]; exact q1, by rw [e1]⟩, j2⟩
  ·rcases List.mem_append.1 hx with hx | hx
   ·exact k3 x hx
   ·exact j3 x hx
 | .agg cs :: xs, (true, .agg ts) :: ds, u, ps, vs, h, hv => by
  obtain ⟨v, vs', rfl, ⟨y, rfl, h1⟩, h2⟩ := hv
  unfold gvA at h
  obtain ⟨s, ps', tp, k1, k2, k3, k4⟩ := zbd hR hB h h1
  obtain ⟨s', j1, j2, j3, j4⟩ := zc4 k1 h2
  refine ⟨s ++ s', by simpa using j1, fun FP hFP => ?_, fun x hx => ?_, fun hu => by simpa using j4 (k4 hu)⟩
  ·obtain ⟨tp', j2⟩ := j2 FP hFP
   exact ⟨tp ++ tp', _, vs', bks B s, bks B s', tp, tp', rfl, by unfold bks; rw [List.flatMap_append], rfl, ⟨y, rfl, k2⟩, j2⟩
  ·rcases List.mem_append.1 hx with hx | hx
   ·exact k3 x hx
   ·exact j3 x hx
 | .one _ :: _, (true, .agg _) :: _, _, _, _, h, _ => h.elim
 | .agg _ :: _, (true, .one _) :: _, _, _, _, h, _ => h.elim
 | .tup _ :: _, (true, d) :: _, _, _, _, h, _ => by cases d <;> exact h.elim
end
end Go.Proofs.Yteeaofpphmhjdaa
namespace Go.Proofs.Yteeaofpphmhjdaa
set_option linter.unusedSimpArgs false
set_option linter.unusedVariables false
set_option linter.unusedSectionVars false
set_option maxRecDepth 4000
open Go.RowKit
variable {P : Program}
def C.okU (τ : St) : C -> Prop
 | .t x => x.flat = true
 | .nl _ => True
 | .ow e g => zao (τ.ev e) fun x => g <= x.gen
 | .bx b _ => τ.bx b ≠ none
 | .el _ _ => False
 | .er _ _ => True
 | .eo e s _ _ _ => zao (τ.ev e) fun x => s <= x.gen
 | .fn _ caps => zjx τ caps
 | .cv _ => True
 | .any => True
 | .rn _ => True
def zqy (τ : St) : List C -> Prop
 | [] => True
 | c :: cs => c.okU τ /\ zqy τ cs
def okUt (τ : St) : List (Bool × List C) -> Prop
 | [] => True
 | x :: xs => zqy τ x.2 /\ okUt τ xs
def V.okU (τ : St) : V -> Prop
 | .one c => c.okU τ
 | .agg cs => zqy τ cs
 | .tup xs => okUt τ xs
section
variable {σ τ : St} {g g' : Gh} {w w' : World} {ev' : Nat -> Option Ev} (hβ : g'.β = g.β) (hψ : ∀ e, τ.ev e ≠ none -> ev' e = τ.ev e /\ g'.ψ e = g.ψ e) (hrn : ∀ b, zcx σ g w b -> w'.heap[b]? = w.heap[b]? /\ zcx ⟨τ.sl, τ.bx, ev'⟩ g' w' b)
include hβ hψ hrn
theorem zna {c : C} {v : Value} (hc : c.okU τ) (h : CR σ g w c v) : CR ⟨τ.sl, τ.bx, ev'⟩ g' w' c v := by
 have hh : ∀ {e n : Nat}, zao (τ.ev e) (fun x => n <= x.gen) -> g'.ψ e = g.ψ e /\ St.has ⟨τ.sl, τ.bx, ev'⟩ e n := fun {e n} ho => by
  obtain ⟨x, hx, hn⟩ := zam ho
  obtain ⟨k1, k2⟩ := hψ e (by rw [hx]; simp)
  exact ⟨k2, x, k1.trans hx, hn⟩
 cases c with
 | t x => exact zf6 hc h
 | nl s => exact h
 | ow e n => obtain ⟨k1, k2⟩ := hh hc; exact ⟨by rw [k1]; exact h.1, k2⟩
 | bx b o => exact ⟨by rw [hβ]; exact h.1, hc⟩
 | el cs o => exact hc.elim
 | eo e s sz i o => obtain ⟨k1, k2⟩ := hh hc; obtain ⟨b, n, c, q1, q2, q3, q4⟩ := h; exact ⟨b, n, c, by rw [k1]; exact q1, q2, q3, k2⟩
 | fn f caps => exact ⟨by rw [hβ]; exact h.1, fun b hb => zes (show zjx τ caps from hc) b hb⟩
 | cv u => exact h
 | any => trivial
 | rn x => exact zah.keep (fun b hb => (hrn b hb).1) (fun b hb => (hrn b hb).2) x v h
 | er cs o => obtain ⟨b, q, h1, h2, h3⟩ := h; exact ⟨b, q, h1, (hrn b h2).2, zau.keep (fun b hb => (hrn b hb).1) (fun b hb => (hrn b hb).2) b (hrn b h2).1 q cs h3⟩
theorem zf2 : ∀ {cs : List C} {vs : List Value}, zqy τ cs -> CRs σ g w cs vs -> CRs ⟨τ.sl, τ.bx, ev'⟩ g' w' cs vs
 | [], _, _, h => h
 | c :: cs, vs, hc, h => by
  obtain ⟨v, vs', rfl, h1, h2⟩ := h
  exact ⟨v, vs', rfl, zna hβ hψ hrn hc.1 h1, zf2 hc.2 h2⟩
theorem zln : ∀ {xs : List (Bool × List C)} {vs : List Value}, okUt τ xs -> CRt σ g w xs vs -> CRt ⟨τ.sl, τ.bx, ev'⟩ g' w' xs vs
 | [], _, _, h => h
 | x :: xs, vs, hc, h => by
  obtain ⟨v, vs', rfl, h1, h2⟩ := h
  refine ⟨v, vs', rfl, ?_, zln hc.2 h2⟩
  unfold CRx at h1 ⊢
  split at h1
  ·rw [if_pos ‹_›]; obtain ⟨a, k1, k2⟩ := h1; exact ⟨a, k1, zf2 hβ hψ hrn hc.1 k2⟩
  ·rw [if_neg ‹_›]
   obtain ⟨c, k1, k2⟩ := h1
   refine ⟨c, k1, zna hβ hψ hrn ?_ k2⟩
   have := hc.1
   rw [k1] at this
   exact this.1
theorem okU_vr {x : V} {v : Value} (hc : x.okU τ) (h : VR σ g w x v) : VR ⟨τ.sl, τ.bx, ev'⟩ g' w' x v := by
 cases x with
 | one c => exact zna hβ hψ hrn hc h
 | agg cs => obtain ⟨a, k1, k2⟩ := h; exact ⟨a, k1, zf2 hβ hψ hrn hc k2⟩
 | tup xs => obtain ⟨a, k1, k2⟩ := h; exact ⟨a, k1, zln hβ hψ hrn hc k2⟩
end
def zo1 {α : Type} : List (Nat × α) -> Nat -> Prop
 | [], _ => True
 | p :: l, i => (i = p.1) = False /\ zo1 l i
def okL (τ : St) : List (Nat × V) -> Prop
 | [] => True
 | p :: l => p.2.okU τ /\ okL τ l
def okB (τ : St) : List (Nat × List C) -> Prop
 | [] => True
 | p :: l => zqy τ p.2 /\ okB τ l
def okE : List (Nat × Ev) -> Prop
 | [] => True
 | p :: l => p.2.on = true /\ p.2.deep = true /\ okE l
def zo7 (el : List (Nat × Ev)) : List Sr -> Prop
 | [] => True
 | s :: u => zo1 el s.1 /\ zo7 el u
theorem zhm {α : Type} : ∀ {l : List (Nat × α)} {i : Nat}, zo1 l i -> tbl l i = none
 | [], _, _ => rfl
 | (j, v) :: l, i, h => by unfold tbl; rw [if_neg (fun e => of_eq_false h.1 e), zhm h.2]
theorem zgu {el : List (Nat × Ev)} : ∀ {u : List Sr}, zo7 el u -> ∀ s ∈ u, tbl el s.1 = none
 | [], _, s, hs => by simp at hs
 | x :: u, h, s, hs => by
  rcases List.mem_cons.1 hs with rfl | hs
  ·exact zhm h.1
  ·exact zgu h.2 s hs
theorem znm {τ : St} : ∀ {l : List (Nat × V)}, okL τ l -> ∀ i, (ze1 l i).okU τ
 | [], _, _ => trivial
 | (j, v) :: l, h, i => by
  unfold ze1
  split
  ·exact h.1
  ·exact znm h.2 i
theorem zms {τ : St} : ∀ {l : List (Nat × List C)}, okB τ l -> ∀ b cs, tbl l b = some cs -> zqy τ cs
 | [], _, _, _, h => by cases h
 | (j, v) :: l, h, b, cs, hb => by
  unfold tbl at hb
  split at hb
  ·cases hb; exact h.1
  ·exact zms h.2 b cs hb
theorem zm0 : ∀ {l : List (Nat × Ev)}, okE l -> ∀ e x, tbl l e = some x -> x.on = true /\ x.deep = true
 | [], _, _, _, h => by cases h
 | (j, v) :: l, h, e, x, hb => by
  unfold tbl at hb
  split at hb
  ·cases hb; exact ⟨h.1, h.2.1⟩
  ·exact zm0 h.2.2 e x hb
attribute [go_sem] gvT owU zcu zhi zo1 okL okB okE zo7 C.okU zqy okUt V.okU gvA gvK okS okQ rdV rdC rdCs
end Go.Proofs.Yteeaofpphmhjdaa
namespace Go.Proofs.Yteeaofpphmhjdaa
set_option linter.unusedSimpArgs false
set_option linter.unusedVariables false
set_option linter.unusedSectionVars false
set_option maxRecDepth 4000
open Go.RowKit
variable {P : Program}
def PX (P : Program) (rs : List ResultVar) (res : List D) (σ : St) : Prop := ∃ pl, zao (zbg P σ rs) fun vs => gvA σ (fun _ => True) [] pl vs (res.map fun d => (true, d))
def PS (P : Program) (rs : List ResultVar) (res : List D) (e : Exit) (σ : St) : Prop := match e with
 | .normal => PF P rs res .normal σ \/ PX P rs res σ
 | .ret => PF P rs res .ret σ \/ PX P rs res σ
 | _ => False
theorem zdu {w : World} {A : Nat -> Prop} : ∀ {res : List D} {vs : List Value} {fp tp : List Nat}, zal w A (res.map fun d => (true, d)) vs fp tp -> GDs w res vs fp tp
 | [], _, _, _, h => h
 | d :: ds, _, _, _, h => by
  obtain ⟨v, vs', f1, f2, t1, t2, rfl, rfl, rfl, h1, h2⟩ := h
  exact ⟨v, vs', f1, f2, t1, t2, rfl, rfl, rfl, h1, zdu h2⟩
theorem px_own {n0 : Nat -> Prop} {N : Nat} {σ : St} {g : Gh} {a : Act} {w : World} (hR : Rel n0 N σ g a w) {vs : List V} {res : List D} {pl : List (Nat × Nat × Nat)} (h : gvA σ (fun _ => True) [] pl vs (res.map fun d => (true, d))) {us : List Value} (hv : VRl σ g w vs us) :
  ∃ fp tp, GDs w res us fp tp /\ fp.Nodup /\ ∀ b ∈ fp, ∃ e, σ.On e /\ b ∈ g.φ e := by
 obtain ⟨B, hB⟩ := hR.fam
 obtain ⟨s, k1, k2, k3, k4⟩ := zc4 hR hB h hv
 rw [List.append_nil] at k4
 have hsp : s.Pairwise okP := (List.pairwise_reverse.1 (k4 List.Pairwise.nil)).imp fun h => h.symm
 obtain ⟨tp, k2⟩ := k2 [] (by simp)
 refine ⟨_, tp, zdu k2, zce hR hB k3 hsp, fun b hb => ?_⟩
 obtain ⟨x, hx, hm⟩ := List.mem_flatMap.1 hb
 exact ⟨x.1, k3 x hx, hB.sub x.1 x.2 b (k3 x hx) hm⟩
theorem GC_ofW {f : FuncId} {fn : Func} {c : Code} {args : List (Bool × D)} {res : List D} (hc : zbi P f) (hf : P.funcs[f]? = some fn) (hb : fn.body = some c) (hd : zbp fn.ntmps c = true) (hN : args.length <= fn.ntmps) (hs : zay args)
  (h : ∀ (w : World) (vs : List Value) (fp tp : List Nat), zal w (fun b => b < w.heap.size /\ b ∉ fp) args vs fp tp -> ∀ (g : Gh) (a : Act), Rel (fun b => b < w.heap.size /\ b ∉ fp) fn.ntmps (zdl args) g a w -> (a.tmps = (⟨vs⟩ : Array Value) ++ Array.replicate (fn.ntmps - vs.length) undef /\ (g.A0, g.R0) = ((fun _ => True), RP.of fun b => b ∈ fp \/ w.heap.size <= b)) →
   ∃ σ0, ex P c [] (PS P fn.results.toList res) σ0 /\ Rel (fun b => b < w.heap.size /\ b ∉ fp) fn.ntmps σ0 g a w) : GC P f args res := by
 refine ⟨hc, fun w vs fp tp hv hn => ?_⟩
 refine calls_of_wp hf hb ?_
 have hv' : zal w (fun b => b < w.heap.size /\ True /\ b ∉ fp) args vs fp tp := zal.keepA (fun b hb => ⟨hb.1, trivial, hb.2⟩) hv
 obtain ⟨g, hg, hR⟩ := Rel.start (A0 := fun _ => True) (R0 := RP.of fun b => b ∈ fp \/ w.heap.size <= b) (N := fn.ntmps) hv' hn hs hN (fun _ _ => trivial) (fun b hb => ⟨trivial, Or.inl hb⟩) (fun b hb => ⟨trivial, by
  by_cases hlt : b < w.heap.size
  ·exact Or.inl (Classical.byContradiction fun h => hb ⟨hlt, h⟩)
  ·exact Or.inr (by omega)⟩)
 obtain ⟨σ0, hex, hR0⟩ := h w vs fp tp hv g _ hR ⟨rfl, hg⟩
 refine wp_mono (za2 (w0 := w) c σ0 _ hd hex g _ w hR0 (fun k hk => hk.1) (Bk.refl _ _) hg) fun e a' w' hq => ?_
 obtain ⟨σ', g', h1, h2, h3, h4, h5⟩ := hq
 have fin : ∀ {us : List Value} {v : Value}, (results fn a'.tmps).run P w' = .ok v w' -> v = zbv us -> (∃ fp' tp', GDs w' res us fp' tp' /\ fp'.Nodup /\ ∀ b ∈ fp', ∃ e, σ'.On e /\ b ∈ g'.φ e) -> ∃ v, (results fn a'.tmps).run P w' = .ok v w' /\ ∃ us fp' tp', Ending.returned v = .returned (zbv us) /\ GDs w' res us fp' tp' /\ fp'.Nodup /\ (∀ b ∈ fp', b ∈ fp \/ w.heap.size <= b) /\ Bk (fun k => k < w.heap.size /\ k ∉ fp) w w' := fun {us v} r1 rv ⟨fp', tp', o1, o2, o3⟩ => by
  refine ⟨_, r1, us, fp', tp', by rw [rv], o1, o2, fun b hb => ?_, h4⟩
  obtain ⟨e, l, m⟩ := o3 b hb
  have := (h2.ebase e l b m).2
  rw [(Prod.mk.inj h5).2] at this
  exact this
 have key : (zao (zbg P σ' fn.results.toList) (fun vs => zqt σ' [] vs res) \/ PX P fn.results.toList res σ') -> ∃ v, (results fn a'.tmps).run P w' = .ok v w' /\ ∃ us fp' tp', Ending.returned v = .returned (zbv us) /\ GDs w' res us fp' tp' /\ fp'.Nodup /\ (∀ b ∈ fp', b ∈ fp \/ w.heap.size <= b) /\ Bk (fun k => k < w.heap.size /\ k ∉ fp) w w' := fun hk => by
  rcases hk with hk | ⟨pl, hk⟩
  ·obtain ⟨vs, hvs, hk⟩ := zam hk
   obtain ⟨us, r1, r2⟩ := zbo h2 fn hvs
   obtain ⟨used, fp', tp', o1, o2⟩ := zcl h2 hk r2
   exact fin r1 rfl ⟨fp', tp', o1, o2.1, fun b hb => by obtain ⟨e, _, _, l, m⟩ := o2.2.1 b hb; exact ⟨e, l, m⟩⟩
  ·obtain ⟨vs, hvs, hk⟩ := zam hk
   obtain ⟨us, r1, r2⟩ := zbo h2 fn hvs
   exact fin r1 rfl (px_own h2 hk r2)
 cases e with
 | normal => exact ⟨h2.defers, key h1⟩
 | ret => exact ⟨h2.defers, key h1⟩
 | exit _ => exact h1.elim
 | goto _ => exact h1.elim
 | panic _ => exact h1.elim
 | outgrown => exact h1.elim
theorem zn3 (p : Prop) : (p \/ True) = True := by simp
theorem zos (p : Prop) : (True \/ p) = True := by simp
attribute [go_sem] Bool.false_and Bool.and_false Bool.and_self
attribute [go_sem] PS zn3 zos
attribute [go_sem] List.length_append
attribute [go_sem] List.set_cons_succ List.set_cons_zero
end Go.Proofs.Yteeaofpphmhjdaa
namespace Go.Proofs.Yteeaofpphmhjdaa
set_option linter.unusedSimpArgs false
set_option linter.unusedVariables false
set_option linter.unusedSectionVars false
set_option maxRecDepth 4000
open Go.RowKit
variable {P : Program}
def D.toN : D -> V
 | .one t => .one t.toN
 | .agg ts => .agg (ts.map T.toN)
def zdo : Nat -> List D -> Nat -> V
 | _, [] => fun _ => .one .any
 | k, d :: ds => upd (zdo (k + 1) ds) k d.toN
def zf3 (args : List D) : St := ⟨zdo 0 args, fun _ => none, fun _ => none⟩
theorem zhg : ∀ (ds : List D) (k i : Nat), zdo k ds (k + i) = match ds[i]? with | some d => d.toN | none => .one .any
 | [], k, i => by simp [zdo]
 | d :: ds, k, 0 => by simp [zdo, upd]
 | d :: ds, k, i + 1 => by
  unfold zdo
  rw [zae _ _ (by omega), show k + (i + 1) = k + 1 + i by omega, zhg ds (k + 1) i]
  simp
theorem zqn {σ : St} {g : Gh} {w : World} {A : Nat -> Prop} (hA : ∀ b, A b -> zcx σ g w b) {x : T} {v : Value} (h : zah w A x v) : CR σ g w x.toN v := by
 cases x <;> first | exact zah.keep (fun _ _ => rfl) (fun b hb => (hA b hb).1) _ v h | exact zah.keep (fun _ _ => rfl) hA _ v h
theorem zky {σ : St} {g : Gh} {w : World} {A : Nat -> Prop} (hA : ∀ b, A b -> zcx σ g w b) : ∀ {ts : List T} {vs : List Value}, zaa w A ts vs -> CRs σ g w (ts.map T.toN) vs
 | [], vs, h => by unfold zaa at h; exact h
 | t :: ts, vs, h => by
  unfold zaa at h
  obtain ⟨v, vs', rfl, h1, h2⟩ := h
  exact ⟨v, vs', rfl, zqn hA h1, zky hA h2⟩
theorem zqx {σ : St} {g : Gh} {w : World} {A : Nat -> Prop} (hA : ∀ b, A b -> zcx σ g w b) {d : D} {v : Value} (h : zny w A d v) : VR σ g w d.toN v := by
 cases d with
 | one t => exact zqn hA h
 | agg ts => obtain ⟨a, h0, h1⟩ := h; exact ⟨a, h0, zky hA h1⟩
theorem zc7.at {w : World} {A : Nat -> Prop} : ∀ {ds : List D} {vs : List Value}, zc7 w A ds vs -> ∀ (i : Nat) d, ds[i]? = some d -> ∃ v, vs[i]? = some v /\ zny w A d v
 | [], _, _, i, d, h => by simp at h
 | d0 :: ds, vs, h, 0, d, hi => by
  obtain ⟨v, vs', rfl, h1, h2⟩ := h
  simp only [List.getElem?_cons_zero, Option.some.injEq] at hi
  subst hi; exact ⟨v, rfl, h1⟩
 | d0 :: ds, vs, h, i + 1, d, hi => by
  obtain ⟨v, vs', rfl, h1, h2⟩ := h
  simpa using zc7.at h2 i d (by simpa using hi)
theorem zcr {w : World} {A : Nat -> Prop} : ∀ {ds : List D} {vs : List Value} {fp tp : List Nat}, zal w A (rd ds) vs fp tp -> zc7 w A ds vs /\ fp = [] /\ tp = []
 | [], _, _, _, h => ⟨h.1, h.2.1, h.2.2⟩
 | d :: ds, _, _, _, h => by
  obtain ⟨v, vs', rfl, h1, h2⟩ := h
  obtain ⟨k1, k2, k3⟩ := zcr h2
  exact ⟨⟨v, vs', rfl, h1, k1⟩, k2, k3⟩
theorem zl5 {args : List D} {w : World} {vs : List Value} {N : Nat} {g : Gh} {a : Act} (hr : zc7 w (fun b => b < w.heap.size /\ b ∉ ([] : List Nat)) args vs) (hR : Rel (fun b => b < w.heap.size /\ b ∉ ([] : List Nat)) N (zdl (rd args)) g a w)
  (hg : a.tmps = (⟨vs⟩ : Array Value) ++ Array.replicate (N - vs.length) undef /\ (g.A0, g.R0) = ((fun _ => True), RP.of fun b => b ∈ ([] : List Nat) \/ w.heap.size <= b)) : Rel (fun b => b < w.heap.size /\ b ∉ ([] : List Nat)) N (zf3 args) g a w := by
 have hbx : ∀ (ds : List D) (k : Nat), zc8 k (rd ds) = fun _ => none := fun ds => by
  induction ds with
  | nil => intro k; rfl
  | cons d ds ih => intro k; exact ih (k + 1)
 have hG : ∀ b, (b < w.heap.size /\ b ∉ ([] : List Nat)) -> zcx (zf3 args) g w b := fun b hb => by
  refine ⟨⟨fun k hk => absurd rfl hk, fun e x he _ => (by cases he), hb.1, by rw [(Prod.mk.inj hg.2).1]; trivial⟩, ?_⟩
  rintro e ⟨x, hx, _⟩
  cases hx
 refine hR.slots_of (σ' := zf3 args) rfl ?_ hR.defers hR.size fun i => ?_
 ·show (fun _ => none) = zc8 0 (rd args)
  rw [hbx]
 ·have hm : Mv (zf3 args) (zf3 args) g g w w := Mv.of_eq g w rfl rfl
  show VR (zdl (rd args)) g w (zdo 0 args i) _
  have hi := zhg args 0 i
  rw [Nat.zero_add] at hi
  rw [hi]
  cases hd : args[i]? with
  | none => trivial
  | some d =>
   obtain ⟨v, hv1, hv2⟩ := zc7.at hr i d hd
   have hlt : i < vs.length := (List.getElem?_eq_some_iff.1 hv1).1
   have e : a.tmps.getD i (g.R0.ξ i) = v := by
    rw [hg.1]
    rw [Array.getD_eq_getD_getElem?, Array.getElem?_append_left (by simpa using hlt)]
    simp [hv1]
   rw [e]
   have hx := zqx hG hv2
   exact (Mv.of_eq (σ := zf3 args) (σ' := zdl (rd args)) g w rfl (by show zc8 0 (rd args) = fun _ => none; rw [hbx])).vr hx
theorem zmj {f : FuncId} {fn : Func} {c : Code} {args res : List D} (hc : zbi P f) (hf : P.funcs[f]? = some fn) (hb : fn.body = some c) (hd : zbp fn.ntmps c = true) (hN : (rd args).length <= fn.ntmps)
  (h : ex P c [] (PS P fn.results.toList res) (zf3 args)) : FC P f args res := by
 refine GC_ofW hc hf hb hd hN (zdf args) fun w vs fp tp hv g a hR hg => ?_
 obtain ⟨hr, rfl, rfl⟩ := zcr hv
 exact ⟨zf3 args, h, zl5 hr hR hg⟩
attribute [go_sem] zf3 zdo D.toN T.toN
end Go.Proofs.Yteeaofpphmhjdaa
namespace Go.Proofs.Yteeaofpphmhjdaa
set_option linter.unusedSimpArgs false
set_option linter.unusedVariables false
set_option linter.unusedSectionVars false
set_option maxRecDepth 4000
open Go.RowKit
variable {P : Program}
def C.evs : C -> List Nat
 | .ow e _ => [e]
 | .eo e _ _ _ _ => [e]
 | _ => []
def C.bxs : C -> List Nat
 | .bx b _ => [b]
 | .fn _ caps => caps
 | _ => []
def V.alls : V -> List C
 | .one c => [c]
 | .agg cs => cs
 | .tup xs => xs.flatMap (·.2)
def ins (x : Nat) : List Nat -> List Nat
 | [] => [x]
 | y :: l => if x = y then y :: l else y :: ins x l
def ze8 : List Nat -> List Nat -> List Nat
 | [], l => l
 | x :: xs, l => ze8 xs (ins x l)
def noK (x : Nat) : List Nat -> Bool
 | [] => true
 | y :: l => if x = y then false else noK x l
def dif (l : List Nat) : List Nat -> List Nat
 | [] => []
 | x :: xs => if noK x l = true then x :: dif l xs else dif l xs
def zoh : List C -> List Nat
 | [] => []
 | c :: cs => c.bxs ++ zoh cs
def zp1 : List C -> List Nat
 | [] => []
 | c :: cs => c.evs ++ zp1 cs
def St.kb0 (σ : St) : List Nat -> List Nat
 | [] => []
 | i :: L => ze8 (zoh (σ.sl i).alls) (σ.kb0 L)
def St.kb1 (σ : St) : List Nat -> List Nat
 | [] => []
 | b :: B => ze8 (b :: zoh ((σ.bx b).getD [])) (σ.kb1 B)
def St.KB (σ : St) (L : List Nat) : List Nat := σ.kb1 (σ.kb0 L)
def St.ke0 (σ : St) : List Nat -> List Nat
 | [] => []
 | i :: L => ze8 (zp1 (σ.sl i).alls) (σ.ke0 L)
def St.ke1 (σ : St) (l : List Nat) : List Nat -> List Nat
 | [] => l
 | b :: B => ze8 (zp1 ((σ.bx b).getD [])) (σ.ke1 l B)
def St.KE (σ : St) (L : List Nat) : List Nat := σ.ke1 (σ.ke0 L) (σ.KB L)
def St.lL (σ : St) (L : List Nat) : List (Nat × V) := L.map fun i => (i, σ.sl i)
def St.lB (σ : St) (B : List Nat) : List (Nat × List C) := B.map fun b => (b, (σ.bx b).getD [])
def St.lE (σ : St) (E : List Nat) : List (Nat × Ev) := E.map fun e => (e, (σ.ev e).getD ⟨false, 0, [], 0, false⟩)
def St.hL (σ : St) (L : List Nat) : St := hd (σ.lL L) (σ.lB (σ.KB L)) (σ.lE (σ.KE L))
def wkK (σ : St) (L : List Nat) : Prop := wkL σ (σ.hL L) (σ.lL L) /\ wkB σ (σ.hL L) (σ.lB (σ.KB L)) /\ wkE σ (σ.lE (σ.KE L))
theorem wkK_wk {σ : St} {L : List Nat} (h : wkK σ L) : Wk σ (σ.hL L) := zaf h
section
variable {ks : List Fr} {Q : Exit -> St -> Prop} {σ : St} {ops : Array Oper} {os : List Oper} {ty : TypeId} {ps : String} {af : Array Edge} {dst : Option Nat} {x : Operand} {asx : Array Operand} {ts : Array TypeId} {f : FuncId}
theorem zq2 {g : Gh} {w : World} {c : C} {t : T} {v : Value} (h : rdC c t) (hv : CR σ g w c v) : zah w (zcx σ g w) t v := by
 unfold rdC at h
 split at h
 ·rename_i x
  obtain ⟨rfl, hn⟩ := h
  exact zfp (σ := σ) (g := g) (x := .one (.t x)) (d := .one x) ⟨rfl, hn⟩ hv _
 ·rename_i f f'
  subst h
  exact zfp (σ := σ) (g := g) (x := .one (.fn f [])) (d := .one (.fn f [])) rfl hv _
 ·subst h; exact hv
 ·obtain ⟨rfl, rfl⟩ := h
  obtain ⟨b, q, h1, h2, h3⟩ := hv
  unfold zah
  exact ⟨b, q, h1, h2, h3⟩
 ·subst h
  rw [show v = .slice none 0 0 from hv]
  unfold zah
  exact ⟨none, 0, rfl, by simp, by simp, Or.inl rfl⟩
 ·exact h.elim
theorem zm1 {g : Gh} {w : World} : ∀ {cs : List C} {ts : List T} {vs : List Value}, rdCs cs ts -> CRs σ g w cs vs -> zaa w (zcx σ g w) ts vs
 | [], [], vs, _, hv => by unfold zaa; exact hv
 | [], _ :: _, _, h, _ => h.elim
 | _ :: _, [], _, h, _ => h.elim
 | c :: cs, t :: ts, vs, h, hv => by
  obtain ⟨v, vs', rfl, h1, h2⟩ := hv
  unfold zaa
  exact ⟨v, vs', rfl, zq2 h.1 h1, zm1 h.2 h2⟩
theorem rdV_fr {g : Gh} {w : World} {x : V} {d : D} {v : Value} (h : rdV x d) (hv : VR σ g w x v) : zny w (zcx σ g w) d v := by
 unfold rdV at h
 split at h
 ·exact zq2 h hv
 ·obtain ⟨b, e, hv⟩ := hv; exact ⟨b, e, zm1 h hv⟩
 ·exact h.elim
end
def gVN (k : Nat) : Bool × D -> V
 | (false, d) => d.toN
 | (true, d) => gV k (true, d)
theorem zal.atR {w : World} {A : Nat -> Prop} : ∀ {ds : List (Bool × D)} {vs : List Value} {fp tp : List Nat}, zal w A ds vs fp tp -> ∀ (i : Nat) d, ds[i]? = some (false, d) -> ∃ v, vs[i]? = some v /\ zny w A d v
 | [], _, _, _, _, i, d, h => by simp at h
 | (false, e) :: ds, _, _, _, h, 0, d, hi => by
  obtain ⟨v, vs', rfl, h1, _⟩ := h
  simp only [List.getElem?_cons_zero, Option.some.injEq, Prod.mk.injEq, true_and] at hi
  subst hi
  exact ⟨v, rfl, h1⟩
 | (true, e) :: ds, _, _, _, h, 0, d, hi => by simp at hi
 | (false, e) :: ds, _, _, _, h, i + 1, d, hi => by
  obtain ⟨v, vs', rfl, _, h2⟩ := h
  simpa using zal.atR h2 i d (by simpa using hi)
 | (true, e) :: ds, _, _, _, h, i + 1, d, hi => by
  obtain ⟨v, vs', f1, f2, t1, t2, rfl, rfl, rfl, _, h2⟩ := h
  simpa using zal.atR h2 i d (by simpa using hi)
attribute [go_sem] C.evs C.bxs V.alls ins ze8 noK dif zoh zp1 St.kb0 St.kb1 St.KB St.ke0 St.ke1 St.KE St.lL St.lB St.lE St.hL wkK gVN
end Go.Proofs.Yteeaofpphmhjdaa
namespace Go.Proofs.Yteeaofpphmhjdaa
set_option linter.unusedSimpArgs false
set_option linter.unusedVariables false
set_option linter.unusedSectionVars false
set_option maxRecDepth 4000
open Go.RowKit
variable {P : Program}
theorem zal.append {w : World} {A : Nat -> Prop} : ∀ {d1 d2 : List (Bool × D)} {v1 v2 : List Value} {f1 f2 t1 t2 : List Nat}, zal w A d1 v1 f1 t1 -> zal w A d2 v2 f2 t2 -> zal w A (d1 ++ d2) (v1 ++ v2) (f1 ++ f2) (t1 ++ t2)
 | [], _, _, _, _, _, _, _, h, k => by obtain ⟨rfl, rfl, rfl⟩ := h; exact k
 | (true, d) :: ds, _, _, _, _, _, _, _, h, k => by
  obtain ⟨v, vs', g1, g2, s1, s2, rfl, rfl, rfl, h1, h2⟩ := h
  exact ⟨v, _, g1, _, s1, _, rfl, by rw [List.append_assoc], by rw [List.append_assoc], h1, zal.append h2 k⟩
 | (false, d) :: ds, _, _, _, _, _, _, _, h, k => by
  obtain ⟨v, vs', rfl, h1, h2⟩ := h
  exact ⟨v, _, rfl, h1, zal.append h2 k⟩
theorem zal.len {w : World} {A : Nat -> Prop} : ∀ {ds : List (Bool × D)} {vs : List Value} {fp tp : List Nat}, zal w A ds vs fp tp -> vs.length = ds.length
 | [], _, _, _, h => by rw [h.1]; rfl
 | (true, d) :: ds, _, _, _, h => by obtain ⟨v, vs', _, _, _, _, rfl, rfl, rfl, _, h2⟩ := h; simp [zal.len h2]
 | (false, d) :: ds, _, _, _, h => by obtain ⟨v, vs', rfl, _, h2⟩ := h; simp [zal.len h2]
theorem zal.split {w : World} {A : Nat -> Prop} : ∀ {d1 d2 : List (Bool × D)} {vs : List Value} {fp tp : List Nat}, zal w A (d1 ++ d2) vs fp tp -> ∃ v1 v2 f1 f2 t1 t2, vs = v1 ++ v2 /\ fp = f1 ++ f2 /\ tp = t1 ++ t2 /\ zal w A d1 v1 f1 t1 /\ zal w A d2 v2 f2 t2
 | [], d2, vs, fp, tp, h => ⟨[], vs, [], fp, [], tp, rfl, rfl, rfl, ⟨rfl, rfl, rfl⟩, h⟩
 | (true, d) :: ds, d2, _, _, _, h => by
  obtain ⟨v, vs', g1, g2, s1, s2, rfl, rfl, rfl, h1, h2⟩ := h
  obtain ⟨v1, v2, f1, f2, t1, t2, rfl, rfl, rfl, k1, k2⟩ := zal.split h2
  exact ⟨v :: v1, v2, g1 ++ f1, f2, s1 ++ t1, t2, rfl, by rw [List.append_assoc], by rw [List.append_assoc], ⟨v, v1, g1, f1, s1, t1, rfl, rfl, rfl, h1, k1⟩, k2⟩
 | (false, d) :: ds, d2, _, _, _, h => by
  obtain ⟨v, vs', rfl, h1, h2⟩ := h
  obtain ⟨v1, v2, f1, f2, t1, t2, rfl, rfl, rfl, k1, k2⟩ := zal.split h2
  exact ⟨v :: v1, v2, f1, f2, t1, t2, rfl, rfl, rfl, ⟨v, v1, rfl, h1, k1⟩, k2⟩
def za4 : List (Bool × D) -> List (Bool × T)
 | [] => []
 | (b, .one t) :: ds => (b, t) :: za4 ds
 | (b, .agg ts) :: ds => ts.map (fun t => (b, t)) ++ za4 ds
def bxA (box : List (Bool × T)) : List (Bool × D) := box.map fun p => (p.1, .one p.2)
theorem zpc.ones {w : World} {A : Nat -> Prop} : ∀ {ts : List T} {vs : List Value} {fp tp : List Nat}, zpc w ts vs fp tp -> zal w A (bxA (ts.map fun t => (true, t))) vs fp tp
 | [], _, _, _, h => h
 | t :: ts, _, _, _, h => by
  obtain ⟨v, vs', f1, f2, t2, rfl, rfl, rfl, h1, h2⟩ := h
  exact ⟨v, vs', f1, f2, _, t2, rfl, rfl, rfl, ⟨h1, rfl⟩, zpc.ones h2⟩
theorem zaa.ones {w : World} {A : Nat -> Prop} : ∀ {ts : List T} {vs : List Value}, zaa w A ts vs -> zal w A (bxA (ts.map fun t => (false, t))) vs [] []
 | [], _, h => by unfold zaa at h; exact ⟨h, rfl, rfl⟩
 | t :: ts, _, h => by
  unfold zaa at h
  obtain ⟨v, vs', rfl, h1, h2⟩ := h
  exact ⟨v, vs', rfl, h1, zaa.ones h2⟩
theorem zdj (a b : List (Bool × T)) : bxA (a ++ b) = bxA a ++ bxA b := List.map_append
theorem zah.cells1 {w : World} {A : Nat -> Prop} {t : T} {v : Value} (h : zah w A t v) : v.cells = #[v] := (zah.one h).2
theorem zal.flat {w : World} {A : Nat -> Prop} : ∀ {ds : List (Bool × D)} {vs : List Value} {fp tp : List Nat}, zal w A ds vs fp tp -> ∃ tp', zal w A (bxA (za4 ds)) (vs.flatMap fun u => u.cells.toList) fp tp'
 | [], _, _, _, h => by obtain ⟨rfl, rfl, rfl⟩ := h; exact ⟨[], rfl, rfl, rfl⟩
 | (true, .one t) :: ds, _, _, _, h => by
  obtain ⟨v, vs', f1, f2, t1, t2, rfl, rfl, rfl, h1, h2⟩ := h
  obtain ⟨tp', h2⟩ := zal.flat h2
  have e : (v :: vs').flatMap (fun u => u.cells.toList) = v :: vs'.flatMap fun u => u.cells.toList := by
   have h1' : zan w t v f1 := h1.1
   simp [h1'.one]
  exact ⟨t1 ++ tp', v, _, f1, f2, t1, tp', e, rfl, rfl, h1, h2⟩
 | (false, .one t) :: ds, _, _, _, h => by
  obtain ⟨v, vs', rfl, h1, h2⟩ := h
  obtain ⟨tp', h2⟩ := zal.flat h2
  have e : (v :: vs').flatMap (fun u => u.cells.toList) = v :: vs'.flatMap fun u => u.cells.toList := by
   have h1' : zah w A t v := h1
   simp [h1'.cells1]
  exact ⟨tp', v, _, e, h1, h2⟩
 | (true, .agg ts) :: ds, _, _, _, h => by
  obtain ⟨v, vs', f1, f2, t1, t2, rfl, rfl, rfl, ⟨a, rfl, h1⟩, h2⟩ := h
  obtain ⟨tp', h2⟩ := zal.flat h2
  refine ⟨t1 ++ tp', ?_⟩
  show zal w A (bxA (ts.map (fun t => (true, t)) ++ za4 ds)) (a ++ vs'.flatMap fun u => u.cells.toList) _ _
  rw [zdj]
  exact zal.append h1.ones h2
 | (false, .agg ts) :: ds, _, _, _, h => by
  obtain ⟨v, vs', rfl, ⟨a, rfl, h1⟩, h2⟩ := h
  obtain ⟨tp', h2⟩ := zal.flat h2
  refine ⟨[] ++ tp', ?_⟩
  show zal w A (bxA (ts.map (fun t => (false, t)) ++ za4 ds)) (a ++ vs'.flatMap fun u => u.cells.toList) _ _
  rw [zdj]
  exact zal.append h1.ones h2
def mC1 (d j : Nat) : Bool × T -> C
 | (true, t) => owC d j t
 | (false, t) => t.toN
def mC (d : Nat) : Nat -> List (Bool × T) -> List C
 | _, [] => []
 | j, p :: ts => mC1 d j p :: mC d (j + 1) ts
def mE (d : Nat) : Nat -> List (Bool × T) -> (Nat -> Option Ev) -> (Nat -> Option Ev)
 | _, [], f => f
 | j, (true, t) :: ts, f => mE d (j + 1) ts (zh8 d j f t)
 | j, (false, _) :: ts, f => mE d (j + 1) ts f
def mF (d : Nat) : Nat -> List (Bool × T) -> (Nat -> Option Ev) -> Prop
 | _, [], _ => True
 | j, (true, t) :: ts, f => zp7 d j f t /\ mF d (j + 1) ts (zh8 d j f t)
 | j, (false, _) :: ts, f => mF d (j + 1) ts f
def mD (d : Nat) : Nat -> List (Bool × D) -> List V
 | _, [] => []
 | j, (b, .one t) :: ds => .one (mC1 d j (b, t)) :: mD d (j + 1) ds
 | j, (b, .agg ts) :: ds => .agg (mC d j (ts.map fun t => (b, t))) :: mD d (j + ts.length) ds
theorem zhc (d : Nat) : ∀ (ts : List (Bool × T)) (j : Nat), (mC d j ts).length = ts.length
 | [], _ => rfl
 | t :: ts, j => by simp [mC, zhc d ts]
theorem zcd (d : Nat) : ∀ (t1 t2 : List (Bool × T)) (j : Nat), mC d j (t1 ++ t2) = mC d j t1 ++ mC d (j + t1.length) t2
 | [], _, _ => by simp [mC]
 | t :: ts, t2, j => by simp only [List.cons_append, mC, zcd d ts t2 (j + 1), List.length_cons]; rw [show j + 1 + ts.length = j + (ts.length + 1) by omega]
theorem zk0 (d : Nat) : ∀ (ds : List (Bool × D)) (j : Nat), ∀ x ∈ mD d j ds, x.isTup = false
 | [], _, x, hx => by simp [mD] at hx
 | (_, .one t) :: ds, j, x, hx => by
  simp only [mD, List.mem_cons] at hx
  rcases hx with rfl | hx
  ·rfl
  ·exact zk0 d ds _ x hx
 | (_, .agg ts) :: ds, j, x, hx => by
  simp only [mD, List.mem_cons] at hx
  rcases hx with rfl | hx
  ·rfl
  ·exact zk0 d ds _ x hx
theorem New.mix {τ : St} {g : Gh} {NB : Nat -> Prop} {w' : World} {A : Nat -> Prop} (d : Nat) : ∀ (ts : List (Bool × T)) (vs : List Value) (fp tp : List Nat) (j : Nat) (ev' : Nat -> Option Ev) (g' : Gh) (F : List Nat), New τ g NB w' ev' g' F -> mF d j ts ev' -> zal w' A (bxA ts) vs fp tp -> fp.Nodup -> (∀ b ∈ fp, NB b /\ b ∉ F) →
  ∃ g'', New τ g NB w' (mE d j ts ev') g'' (F ++ fp) /\ (∀ e, ev' e ≠ none -> mE d j ts ev' e = ev' e /\ g''.ψ e = g'.ψ e) /\ ∀ (σ' : St) (w'' : World), σ'.ev = mE d j ts ev' -> (∀ t v, zah w' A t v -> zah w'' (zcx σ' g'' w'') t v) -> CRs σ' g'' w'' (mC d j ts) vs
 | [], vs, fp, tp, j, ev', g', F, hN, hf, ho, hd, hb => by
  obtain ⟨rfl, rfl, rfl⟩ := ho
  exact ⟨g', by simpa [mE] using hN, fun e _ => ⟨rfl, rfl⟩, fun _ _ _ _ => rfl⟩
 | (false, t) :: ts, vs, fp, tp, j, ev', g', F, hN, hf, ho, hd, hb => by
  obtain ⟨v, vs', rfl, h1, h2⟩ := ho
  obtain ⟨g'', k1, k2, k3⟩ := New.mix d ts vs' fp tp (j + 1) ev' g' F hN hf h2 hd hb
  exact ⟨g'', k1, k2, fun σ' w'' hσ hr => ⟨v, vs', rfl, zla (hr t v h1), k3 σ' w'' hσ hr⟩⟩
 | (true, t) :: ts, vs, fp, tp, j, ev', g', F, hN, hf, ho, hd, hb => by
  obtain ⟨v, vs', f1, f2, t1, t2, rfl, rfl, rfl, ⟨h1, _⟩, h2⟩ := ho
  obtain ⟨hf1, hf2⟩ := hf
  obtain ⟨hd1, hd2, hd3⟩ := List.nodup_append.1 hd
  have h1 : zan w' t v f1 := h1
  by_cases hfl : t.flat = true
  ·have hz : f1 = [] /\ owC d j t = .t t /\ zh8 d j ev' t = ev' /\ ∀ (σ' : St) (g'' : Gh) (w'' : World), CR σ' g'' w'' (.t t) v := by
    cases t <;> simp only [T.flat, Bool.false_eq_true] at hfl
    ·unfold zan at h1; exact ⟨h1.2.2.2, rfl, rfl, fun _ _ _ => by simp only [CR, zah]; exact ⟨h1.1, h1.2.1, h1.2.2.1⟩⟩
    ·unfold zan at h1; exact ⟨h1.2, rfl, rfl, fun _ _ _ => by simp only [CR, zah]; exact h1.1⟩
    ·unfold zan at h1; exact ⟨h1.2.2, rfl, rfl, fun _ _ _ => by simp only [CR, zah]; exact ⟨h1.1, h1.2.1⟩⟩
    ·unfold zan at h1; exact ⟨h1.2, rfl, rfl, fun _ _ _ => by simp only [CR, zah]; exact h1.1⟩
   obtain ⟨rfl, c2, c3, c4⟩ := hz
   rw [c3] at hf2
   obtain ⟨g'', k1, k2, k3⟩ := New.mix d ts vs' f2 t2 (j + 1) ev' g' F hN hf2 h2 hd2 (fun b hb' => hb b (by simp [hb']))
   refine ⟨g'', by simpa [mE, c3] using k1, fun e he => by simpa [mE, c3] using k2 e he, fun σ' w'' hσ hr => ⟨v, vs', rfl, ?_, k3 σ' w'' (by simpa [mE, c3] using hσ) hr⟩⟩
   show CR σ' g'' w'' (owC d j t) v
   rw [c2]; exact c4 _ _ _
  ·cases t <;> simp only [T.flat, Bool.false_eq_true, not_false_eq_true, not_true] at hfl
   ·rename_i sz rows
    have hi' : ev' (d * 32 + j) = none := hf1
    have hi : τ.ev (d * 32 + j) = none := by
     cases hx : τ.ev (d * 32 + j) with
     | none => rfl
     | some x => have := (hN.old (d * 32 + j) (by rw [hx]; simp)).1; rw [hi', hx] at this; cases this
    have hadd := hN.add hi hi' h1 (fun b hb' => (hb b (by simp [hb'])).1) hd1 (fun b hb' => (hb b (by simp [hb'])).2)
    obtain ⟨g'', k1, k2, k3⟩ := New.mix d ts vs' f2 t2 (j + 1) _ _ _ hadd hf2 h2 hd2 (fun b hb' => ⟨(hb b (by simp [hb'])).1, by
      have := (hb b (by simp [hb'])).2
      simp only [List.mem_append, not_or]
      exact ⟨this, fun hf => hd3 b hf b hb' rfl⟩⟩)
    refine ⟨g'', by simpa [mE, zh8] using k1, fun e he => ?_, fun σ' w'' hσ hr => ⟨v, vs', rfl, ?_, k3 σ' w'' hσ hr⟩⟩
    ·have hne : e ≠ d * 32 + j := fun h => he (h ▸ hi')
     have := k2 e (by rw [zae _ _ hne]; exact he)
     simp only [zae _ _ hne] at this
     exact this
    ·have := k2 (d * 32 + j) (by rw [zac]; simp)
     simp only [zac] at this
     exact ⟨by rw [this.2], _, by rw [hσ]; exact this.1, Nat.zero_le _⟩
   ·unfold zan at h1; exact h1.elim
   ·unfold zan at h1; exact h1.elim
   ·unfold zan at h1; exact h1.elim
   ·exact (show False from hf1).elim
theorem zlo {σ : St} {g : Gh} {w w1 : World} {A : Nat -> Prop} (d : Nat) : ∀ {ds : List (Bool × D)} {us : List Value} {fp tp : List Nat} (j : Nat), zal w1 A ds us fp tp -> CRs σ g w (mC d j (za4 ds)) (us.flatMap fun u => u.cells.toList) -> VRl σ g w (mD d j ds) us
 | [], us, fp, tp, j, h, _ => h.1
 | (true, .one t) :: ds, us, fp, tp, j, h, k => by
  obtain ⟨v, vs', f1, f2, t1, t2, rfl, rfl, rfl, h1, h2⟩ := h
  have hv : zan w1 t v f1 := h1.1
  simp only [List.flatMap_cons, hv.one, za4, mC] at k
  obtain ⟨u, us', e, k1, k2⟩ := k
  simp only [List.cons_append, List.nil_append, List.cons.injEq] at e
  obtain ⟨rfl, rfl⟩ := e
  exact ⟨v, vs', rfl, k1, zlo d (j + 1) h2 k2⟩
 | (false, .one t) :: ds, us, fp, tp, j, h, k => by
  obtain ⟨v, vs', rfl, h1, h2⟩ := h
  have hv : zah w1 A t v := h1
  simp only [List.flatMap_cons, hv.cells1, za4, mC] at k
  obtain ⟨u, us', e, k1, k2⟩ := k
  simp only [List.cons_append, List.nil_append, List.cons.injEq] at e
  obtain ⟨rfl, rfl⟩ := e
  exact ⟨v, vs', rfl, k1, zlo d (j + 1) h2 k2⟩
 | (true, .agg ts) :: ds, us, fp, tp, j, h, k => by
  obtain ⟨v, vs', f1, f2, t1, t2, rfl, rfl, rfl, ⟨x, rfl, h1⟩, h2⟩ := h
  simp only [List.flatMap_cons, Value.cells, za4, zcd] at k
  obtain ⟨v1, v2, e, k1, k2⟩ := k.split
  have hl : x.length = v1.length := by rw [k1.len, zhc, List.length_map]; exact zaj.len (zaj.of_g h1)
  obtain ⟨e1, e2⟩ := List.append_inj e hl
  subst e1 e2
  rw [List.length_map] at k2
  exact ⟨_, vs', rfl, ⟨x, rfl, k1⟩, zlo d (j + ts.length) h2 k2⟩
 | (false, .agg ts) :: ds, us, fp, tp, j, h, k => by
  obtain ⟨v, vs', rfl, ⟨x, rfl, h1⟩, h2⟩ := h
  simp only [List.flatMap_cons, Value.cells, za4, zcd] at k
  obtain ⟨v1, v2, e, k1, k2⟩ := k.split
  have hl : x.length = v1.length := by rw [k1.len, zhc, List.length_map]; exact h1.len
  obtain ⟨e1, e2⟩ := List.append_inj e hl
  subst e1 e2
  rw [List.length_map] at k2
  exact ⟨_, vs', rfl, ⟨x, rfl, k1⟩, zlo d (j + ts.length) h2 k2⟩
theorem zcj {σ : St} {g : Gh} {w : World} {n0 : Nat -> Prop} {N : Nat} {a : Act} (hR : Rel n0 N σ g a w) {B : Sr -> List Nat} (hB : Fam w σ g B) {K : List Sr -> Prop} : ∀ {xs : List V} {ds : List (Bool × D)} {u : List Sr} {ps : List (Nat × Nat × Nat)} {vs : List Value}, gvA σ K u ps xs ds -> VRl σ g w xs vs →
  ∃ s, K (s.reverse ++ u) /\ (∃ tp, zal w (zcx σ g w) ds vs (bks B s) tp) /\ (∀ x ∈ s, σ.On x.1) /\ (u.Pairwise okP -> (s.reverse ++ u).Pairwise okP)
 | [], [], u, ps, vs, h, hv => ⟨[], h, ⟨[], hv, rfl, rfl⟩, by simp, fun h => h⟩
 | [], _ :: _, _, _, _, h, _ => h.elim
 | x :: xs, [], _, _, _, h, _ => by cases x <;> exact h.elim
 | x :: xs, (false, d) :: ds, u, ps, vs, h, hv => by
  obtain ⟨v, vs', rfl, h1, h2⟩ := hv
  unfold gvA at h
  obtain ⟨hr, h⟩ := h
  obtain ⟨s, k1, ⟨tp, k2⟩, k3, k4⟩ := zcj hR hB h h2
  exact ⟨s, k1, ⟨tp, v, vs', rfl, rdV_fr hr h1, k2⟩, k3, k4⟩
 | .one c :: xs, (true, .one t) :: ds, u, ps, vs, h, hv => by
  obtain ⟨v, vs', rfl, h1, h2⟩ := hv
  unfold gvA at h
  obtain ⟨s, ps', tp, k1, k2, k3, k4⟩ := zbd hR hB h (vs := [v]) ⟨v, [], rfl, h1, rfl⟩
  obtain ⟨s', j1, ⟨tp', j2⟩, j3, j4⟩ := zcj hR hB k1 h2
  obtain ⟨v0, vs0, f1, f2, t2, e0, e1, rfl, q1, q2⟩ := k2
  cases e0
  obtain ⟨_, rfl, rfl⟩ := q2
  rw [List.append_nil] at e1
  refine ⟨s ++ s', by simpa using j1, ⟨zgp t f1 ++ tp', v, vs', bks B s, bks B s', _, tp', rfl, by unfold bks; rw [List.flatMap_append], rfl, ⟨by rw [e1]; exact q1, by rw [e1]⟩, j2⟩, fun x hx => ?_, fun hu => by simpa using j4 (k4 hu)⟩
  rcases List.mem_append.1 hx with hx | hx
  ·exact k3 x hx
  ·exact j3 x hx
 | .agg cs :: xs, (true, .agg ts) :: ds, u, ps, vs, h, hv => by
  obtain ⟨v, vs', rfl, ⟨y, rfl, h1⟩, h2⟩ := hv
  unfold gvA at h
  obtain ⟨s, ps', tp, k1, k2, k3, k4⟩ := zbd hR hB h h1
  obtain ⟨s', j1, ⟨tp', j2⟩, j3, j4⟩ := zcj hR hB k1 h2
  refine ⟨s ++ s', by simpa using j1, ⟨tp ++ tp', _, vs', bks B s, bks B s', tp, tp', rfl, by unfold bks; rw [List.flatMap_append], rfl, ⟨y, rfl, k2⟩, j2⟩, fun x hx => ?_, fun hu => by simpa using j4 (k4 hu)⟩
  rcases List.mem_append.1 hx with hx | hx
  ·exact k3 x hx
  ·exact j3 x hx
 | .one _ :: _, (true, .agg _) :: _, _, _, _, h, _ => h.elim
 | .agg _ :: _, (true, .one _) :: _, _, _, _, h, _ => h.elim
 | .tup _ :: _, (true, d) :: _, _, _, _, h, _ => by cases d <;> exact h.elim
attribute [go_sem] za4 mC1 mC mE mF mD zh8 zp7
end Go.Proofs.Yteeaofpphmhjdaa
namespace Go.Proofs.Yteeaofpphmhjdaa
theorem ag_3 : zqs Try.prog 3 = some false := by kernel_rfl
theorem sz_3 : za1 Try.prog 3 = some 1 := by kernel_rfl
theorem in_3 : zp5 Try.prog 3 = some .i64 := by kernel_rfl
theorem ze_3 : zcb Try.prog 3 = some [.t (.int .i64 0)] := by kernel_rfl
theorem bo_4 : zm2 Try.prog 4 = true := by kernel_rfl
theorem ag_5 : zqs Try.prog 5 = some false := by kernel_rfl
theorem sz_5 : za1 Try.prog 5 = some 1 := by kernel_rfl
theorem in_5 : zp5 Try.prog 5 = some .u8 := by kernel_rfl
theorem ag_22 : zqs Try.prog 22 = some false := by kernel_rfl
theorem sz_22 : za1 Try.prog 22 = some 1 := by kernel_rfl
theorem el_22 : elT Try.prog 22 = some 5 := by kernel_rfl
theorem nl_24 : nlT Try.prog 24 = 1 := by kernel_rfl
theorem el_24 : elT Try.prog 24 = some 27 := by kernel_rfl
theorem zjj : zcq Try.prog 27 = some 24 := by kernel_rfl
theorem nl_27 : nlT Try.prog 27 = 1 := by kernel_rfl
theorem ag_27 : zqs Try.prog 27 = some false := by kernel_rfl
theorem sz_27 : za1 Try.prog 27 = some 1 := by kernel_rfl
theorem el_27 : elT Try.prog 27 = some 3 := by kernel_rfl
theorem zl9 : zcq Try.prog 3 = some 8 := by kernel_rfl
theorem ze_27 : zcb Try.prog 27 = some [.nl 1] := by kernel_rfl
theorem ag_58 : zqs Try.prog 58 = some false := by kernel_rfl
theorem sz_58 : za1 Try.prog 58 = some 1 := by kernel_rfl
theorem in_58 : zp5 Try.prog 58 = some .u64 := by kernel_rfl
theorem ze_60 : zcb Try.prog 60 = some [.nl 1, .t (.int .i64 0), .t (.int .u64 0)] := by kernel_rfl
theorem pl_60 : plsT Try.prog 60 = some [(0, 1), (1, 1), (2, 1)] := by kernel_rfl
theorem zr5 : zk1 Try.prog 60 0 = some (0, 22) := by kernel_rfl
theorem zrc : zk1 Try.prog 60 1 = some (1, 3) := by kernel_rfl
theorem zr9 : zk1 Try.prog 60 2 = some (2, 58) := by kernel_rfl
theorem ap_24 : apT Try.prog 24 1 := zqh el_24 sz_27 zjj (by decide) ze_27 rfl
theorem ap_27 : apT Try.prog 27 1 := zqh el_27 sz_3 zl9 (by decide) ze_3 rfl
attribute [go_sem] ag_3 sz_3 in_3 ze_3 bo_4 ag_5 sz_5 in_5 ag_22 sz_22 el_22 nl_24 el_24 zjj nl_27 ag_27 sz_27 el_27 zl9 ze_27 ag_58 sz_58 in_58 ze_60 pl_60 zr5 zrc zr9 ap_24 ap_27
attribute [go_sem] Nat.reduceEqDiff reduceIte reduceCtorEq Nat.reduceAdd Nat.reduceMul Int.reduceLE Int.reduceNeg Int.reduceToNat Nat.reduceLeDiff Nat.reduceSub Nat.reduceLT Nat.le_refl Int.cast_ofNat_Int Int.reduceLT Int.reduceGT Int.reduceGE Int.reduceEq Int.reduceBEq Nat.reduceBEq Int.reduceBNe Int.reduceAdd Int.reduceSub gt_iff_lt ge_iff_le
end Go.Proofs.Yteeaofpphmhjdaa
namespace Go.Proofs.Yteeaofpphmhjdaa
set_option linter.unusedSimpArgs false
set_option linter.unusedVariables false
set_option linter.unusedSectionVars false
set_option maxRecDepth 4000
open Go.RowKit
abbrev iD (n : Int) : D := .one (.int .i64 n)
abbrev bD (b : Bool) : D := .one (.bool b)
theorem zai {α : Type} (f : α -> List T) (xs : List α) (k : Nat) (h : k < xs.length) : (xs.map f).getD k [] = f (xs[k]'h) := by simp [List.getD, h]
noncomputable def same {α : Type} (a b : α) : Bool := @decide (a = b) (Classical.propDecidable _)
theorem zd0 {α : Type} {a b : α} : same a b = true ↔ a = b := by simp [same]
theorem zmr {α : Type} {a b : α} : same a b = false ↔ a ≠ b := by simp [same]
theorem zhf {α : Type} (a : α) : same a a = true := by simp [same]
theorem zmn {α : Type} (a b : α) (xs ys : List α) : same (a :: xs) (b :: ys) = (same a b && same xs ys) := by
 rw [Bool.eq_iff_iff, Bool.and_eq_true, zd0, zd0, zd0, List.cons.injEq]
theorem za0 {k : Nat} (h : k < 9223372036854775807) : IntKind.i64.wrap ((k : Int) + 1) = ((k + 1 : Nat) : Int) := zma h
theorem zl4 {k : IntKind} {a b : Int} (h : a = b) : T.int k a = T.int k b := h ▸ rfl
end Go.Proofs.Yteeaofpphmhjdaa
namespace Go.Proofs.Yteeaofpphmhjdaa
set_option linter.unusedSimpArgs false
set_option linter.unusedVariables false
set_option linter.unusedSectionVars false
set_option maxRecDepth 4000
open Go.RowKit
theorem ze9 {α : Type} (c : α -> List T) : ∀ (xs : List PD), (∀ x ∈ xs, ∃ a, x.cells = c a) -> ∃ l : List α, PD.rows xs = l.map c
 | [], _ => ⟨[], rfl⟩
 | x :: xs, h => by
  obtain ⟨a, ha⟩ := h x (by simp)
  obtain ⟨l, hl⟩ := ze9 c xs fun y hy => h y (by simp [hy])
  exact ⟨a :: l, by rw [PD.rows, ha, hl]; rfl⟩
end Go.Proofs.Yteeaofpphmhjdaa
namespace Go.Proofs.Yteeaofpphmhjdaa
set_option linter.unusedSimpArgs false
set_option linter.unusedVariables false
set_option linter.unusedSectionVars false
set_option maxRecDepth 4000
def ab (n : Int) : Int := max n (-n)
theorem ab_neg (n : Int) : ab (-n) = ab n := by unfold ab; omega
theorem zq0 {n : Int} (h : 0 <= n) : ab n = n := by unfold ab; omega
def zkw : Int -> List Int -> Bool
 | _, [] => true
 | p, l :: ls => decide (p < ab l) && decide (ab l <= 12) && zkw (ab l) ls
def pcl (c : List Int) : Bool := zkw 0 c
def zey (S : List (List Int)) : Bool := decide (S.length <= 40) && S.all pcl
def sat (a c : List Int) : Bool := c.any fun l => a.contains l
def opn (a c : List Int) : List Int := c.filter fun l => !a.contains (-l)
abbrev Ris (c : List Int) : Prop := c.Pairwise fun a b => ab a < ab b
theorem zi2 : ∀ (c : List Int) (p : Int), zkw p c = true ↔ (∀ l ∈ c, p < ab l /\ ab l <= 12) /\ Ris c
 | [], p => by simp [zkw, Ris]
 | l :: ls, p => by
  unfold zkw
  rw [Bool.and_eq_true, Bool.and_eq_true, decide_eq_true_eq, decide_eq_true_eq, zi2 ls (ab l)]
  simp only [List.mem_cons, forall_eq_or_imp, Ris, List.pairwise_cons]
  constructor
  ·rintro ⟨⟨h1, h2⟩, h3, h4⟩
   exact ⟨⟨⟨h1, h2⟩, fun x hx => ⟨by have := h3 x hx; omega, (h3 x hx).2⟩⟩, fun x hx => (h3 x hx).1, h4⟩
  ·rintro ⟨⟨⟨h1, h2⟩, h3⟩, h4, h5⟩
   exact ⟨⟨h1, h2⟩, fun x hx => ⟨h4 x hx, (h3 x hx).2⟩, h5⟩
theorem zr3 (c : List Int) : pcl c = true ↔ (∀ l ∈ c, 0 < ab l /\ ab l <= 12) /\ Ris c := zi2 c 0
theorem zej {c : List Int} (h : pcl c = true) {l : Int} (hl : l ∈ c) : 0 < ab l /\ ab l <= 12 := ((zr3 c).1 h).1 l hl
theorem znq {l : Int} (h : 0 < ab l /\ ab l <= 12) : l ≠ 0 /\ -12 <= l /\ l <= 12 := by unfold ab at h; omega
theorem zml : ∀ {c : List Int} {p : Int}, 0 <= p -> p <= 12 -> zkw p c = true -> (c.length : Int) + p <= 12
 | [], p, h0, h1, _ => by simp; exact h1
 | l :: ls, p, h0, h1, h => by
  unfold zkw at h
  simp only [Bool.and_eq_true, decide_eq_true_eq] at h
  have := zml (c := ls) (p := ab l) (by omega) h.1.2 h.2
  rw [List.length_cons]
  omega
theorem zmp {c : List Int} (h : pcl c = true) : c.length <= 12 := by have := zml (p := 0) (by omega) (by omega) h; omega
theorem zbs {S : List (List Int)} (h : zey S = true) {c : List Int} (hc : c ∈ S) : pcl c = true := by
 unfold zey at h
 rw [Bool.and_eq_true, List.all_eq_true] at h
 exact h.2 c hc
theorem zn2 {S : List (List Int)} (h : zey S = true) : S.length <= 40 := by
 unfold zey at h
 rw [Bool.and_eq_true, decide_eq_true_eq] at h
 exact h.1
theorem zmi {a c : List Int} : sat a c = true ↔ ∃ l ∈ c, l ∈ a := by
 unfold sat
 rw [List.any_eq_true]
 simp only [List.contains_iff_mem]
def zow (a c : List Int) : Int × Int := if sat a c = true then (-1, 0) else ((opn a c).length, (opn a c).getLast?.getD 0)
def zgo (S : List (List Int)) : Int := S.foldl (fun n c => c.foldl (fun m l => max m (ab l)) n) 0
end Go.Proofs.Yteeaofpphmhjdaa
namespace Go.Proofs.Yteeaofpphmhjdaa
set_option linter.unusedSimpArgs false
set_option linter.unusedVariables false
set_option linter.unusedSectionVars false
set_option maxRecDepth 4000
structure Ps where
 l : Int
 r : Int
 p : Int
 c : List Int
def ps0 : Ps := ⟨0, 0, 0, []⟩
end Go.Proofs.Yteeaofpphmhjdaa
namespace Go.Proofs.Yteeaofpphmhjdaa
set_option linter.unusedSimpArgs false
set_option linter.unusedVariables false
set_option linter.unusedSectionVars false
set_option maxRecDepth 4000
theorem zqp : ∀ (c : List Int) (n : Int), n <= c.foldl (fun m l => max m (ab l)) n /\ ∀ l ∈ c, ab l <= c.foldl (fun m l => max m (ab l)) n
 | [], n => ⟨Int.le_refl _, by simp⟩
 | l :: c, n => by
  have h := zqp c (max n (ab l))
  rw [List.foldl_cons]
  refine ⟨by omega, fun x hx => ?_⟩
  rcases List.mem_cons.1 hx with rfl | hx
  ·omega
  ·exact h.2 x hx
theorem zku : ∀ (S : List (List Int)) (n : Int), n <= S.foldl (fun n c => c.foldl (fun m l => max m (ab l)) n) n /\ ∀ c ∈ S, ∀ l ∈ c, ab l <= S.foldl (fun n c => c.foldl (fun m l => max m (ab l)) n) n
 | [], n => ⟨Int.le_refl _, by simp⟩
 | c :: S, n => by
  have h1 := zqp c n
  have h := zku S (c.foldl (fun m l => max m (ab l)) n)
  rw [List.foldl_cons]
  refine ⟨by omega, fun d hd l hl => ?_⟩
  rcases List.mem_cons.1 hd with rfl | hd
  ·have := h1.2 l hl; omega
  ·exact h.2 d hd l hl
theorem zlh {S : List (List Int)} {c : List Int} (hc : c ∈ S) {l : Int} (hl : l ∈ c) : ab l <= zgo S := (zku S 0).2 c hc l hl
theorem zjt (S : List (List Int)) : 0 <= zgo S := (zku S 0).1
theorem zg1 : ∀ (c : List Int) (n : Int), n <= 12 -> (∀ l ∈ c, ab l <= 12) -> c.foldl (fun m l => max m (ab l)) n <= 12
 | [], n, h, _ => h
 | l :: c, n, h, hc => by
  rw [List.foldl_cons]
  exact zg1 c _ (by have := hc l (by simp); omega) fun x hx => hc x (by simp [hx])
theorem zgr : ∀ (S : List (List Int)) (n : Int), n <= 12 -> (∀ c ∈ S, ∀ l ∈ c, ab l <= 12) -> S.foldl (fun n c => c.foldl (fun m l => max m (ab l)) n) n <= 12
 | [], n, h, _ => h
 | c :: S, n, h, hc => by
  rw [List.foldl_cons]
  exact zgr S _ (zg1 c n h (hc c (by simp))) fun d hd => hc d (by simp [hd])
theorem zh3 {S : List (List Int)} (h : ∀ c ∈ S, pcl c = true) : zgo S <= 12 := zgr S 0 (by omega) fun c hc _ hl => (zej (h c hc) hl).2
end Go.Proofs.Yteeaofpphmhjdaa
namespace Go.Proofs.Yteeaofpphmhjdaa
set_option linter.unusedSimpArgs false
set_option linter.unusedVariables false
set_option linter.unusedSectionVars false
set_option maxRecDepth 4000
open Go
def zgz (Q : List (Int × Int)) (v : Int) : Int := (if Q.contains (v, 1) = true then 1 else 0) + (if Q.contains (v, 2) = true then 2 else 0)
def orI (a b : Int) : Int := IntKind.i64.wrap ((BitVec.ofInt 64 a ||| BitVec.ofInt 64 b).toNat : Int)
theorem orI_1 (p q : Bool) : orI ((if p = true then 1 else 0) + (if q = true then 2 else 0)) 1 = 1 + (if q = true then 2 else 0) := by cases p <;> cases q <;> decide
theorem orI_2 (p q : Bool) : orI ((if p = true then 1 else 0) + (if q = true then 2 else 0)) 2 = (if p = true then 1 else 0) + 2 := by cases p <;> cases q <;> decide
theorem zd6 {α : Type} [BEq α] [LawfulBEq α] (Q : List α) (x y : α) : (Q ++ [x]).contains y = (Q.contains y || (y == x)) := by
 rw [Bool.eq_iff_iff, Bool.or_eq_true, List.contains_iff_mem, List.contains_iff_mem, List.mem_append, List.mem_singleton, beq_iff_eq]
theorem zcg (Q : List (Int × Int)) (v col : Int) (h : col = 1 \/ col = 2) : zgz (Q ++ [(v, col)]) v = orI (zgz Q v) col := by
 unfold zgz
 rw [zd6, zd6]
 rcases h with rfl | rfl
 ·rw [orI_1, show ((v, (1 : Int)) == (v, 1)) = true by simp, show ((v, (2 : Int)) == (v, 1)) = false by simp, Bool.or_true, Bool.or_false, if_pos rfl]
 ·rw [orI_2, show ((v, (1 : Int)) == (v, 2)) = false by simp, show ((v, (2 : Int)) == (v, 2)) = true by simp, Bool.or_true, Bool.or_false]
  simp only [if_true]
theorem zlt (Q : List (Int × Int)) {u v : Int} (col : Int) (h : u ≠ v) : zgz (Q ++ [(u, col)]) v = zgz Q v := by
 unfold zgz
 have h' : ¬ v = u := fun e => h e.symm
 rw [zd6, zd6, show ((v, (1 : Int)) == (u, col)) = false by simp [h'], show ((v, (2 : Int)) == (u, col)) = false by simp [h'], Bool.or_false, Bool.or_false]
def pt (split : Int) (k : Nat) : Int := if (k : Int) < split then 1 else 2
theorem zjf (split : Int) (k : Nat) : pt split k = 1 \/ pt split k = 2 := by unfold pt; split <;> simp
def prs (S : List (List Int)) (split : Int) : Nat -> List (Int × Int)
 | 0 => []
 | k + 1 => prs S split k ++ (S.getD k []).map fun l => (ab l, pt split k)
theorem zhz {S : List (List Int)} {split : Int} {v p : Int} : ∀ {k : Nat}, k <= S.length -> ((v, p) ∈ prs S split k ↔ ∃ j, ∃ h : j < S.length, j < k /\ p = pt split j /\ ∃ l ∈ S[j], ab l = v)
 | 0, _ => by simp [prs]
 | k + 1, hk => by
  have hg : S.getD k [] = S[k]'(by omega) := by rw [List.getD_eq_getElem?_getD, List.getElem?_eq_getElem (by omega)]; rfl
  rw [prs, List.mem_append, zhz (by omega), hg, List.mem_map]
  constructor
  ·rintro (⟨j, h, h1, h2, h3⟩ | ⟨l, h1, h2⟩)
   ·exact ⟨j, h, by omega, h2, h3⟩
   ·cases h2
    exact ⟨k, by omega, by omega, rfl, l, h1, rfl⟩
  ·rintro ⟨j, h, h1, h2, l, h3, h4⟩
   by_cases hj : j = k
   ·subst hj
    exact Or.inr ⟨l, h3, by rw [h4, h2]⟩
   ·exact Or.inl ⟨j, h, by omega, h2, l, h3, h4⟩
def occ (S : List (List Int)) (v : Int) : Bool := S.any fun c => c.contains v || c.contains (-v)
theorem zmz {S : List (List Int)} {v : Int} (hv : 0 <= v) : occ S v = true ↔ ∃ c ∈ S, ∃ l ∈ c, ab l = v := by
 unfold occ
 rw [List.any_eq_true]
 constructor
 ·rintro ⟨c, hc, h⟩
  rw [Bool.or_eq_true, List.contains_iff_mem, List.contains_iff_mem] at h
  rcases h with h | h
  ·exact ⟨c, hc, v, h, zq0 hv⟩
  ·exact ⟨c, hc, -v, h, by rw [ab_neg, zq0 hv]⟩
 ·rintro ⟨c, hc, l, h1, h2⟩
  refine ⟨c, hc, ?_⟩
  rw [Bool.or_eq_true, List.contains_iff_mem, List.contains_iff_mem]
  have : l = v \/ l = -v := by unfold ab at h2; omega
  rcases this with rfl | rfl
  ·exact Or.inl h1
  ·exact Or.inr h1
def colV (S : List (List Int)) (n : Nat) (v : Int) : Int := (if occ (S.take n) v = true then 1 else 0) + (if occ (S.drop n) v = true then 2 else 0)
theorem zjc {S : List (List Int)} {n : Nat} {v : Int} (hv : 0 <= v) : zgz (prs S n S.length) v = colV S n v := by
 unfold zgz colV
 have e1 : (prs S n S.length).contains (v, 1) = occ (S.take n) v := by
  rw [Bool.eq_iff_iff, List.contains_iff_mem, zhz (Nat.le_refl _), zmz hv]
  constructor
  ·rintro ⟨j, h, _, h2, l, h3, h4⟩
   have hj : j < n := by unfold pt at h2; split at h2 <;> omega
   exact ⟨S[j], List.mem_take_iff_getElem.2 ⟨j, by omega, rfl⟩, l, h3, h4⟩
  ·rintro ⟨c, hc, l, h3, h4⟩
   obtain ⟨j, hj, rfl⟩ := List.mem_take_iff_getElem.1 hc
   exact ⟨j, by omega, by omega, by unfold pt; rw [if_pos (by omega)], l, h3, h4⟩
 have e2 : (prs S n S.length).contains (v, 2) = occ (S.drop n) v := by
  rw [Bool.eq_iff_iff, List.contains_iff_mem, zhz (Nat.le_refl _), zmz hv]
  constructor
  ·rintro ⟨j, h, _, h2, l, h3, h4⟩
   have hj : ¬ (j : Int) < n := by unfold pt at h2; split at h2 <;> omega
   exact ⟨S[j], List.mem_drop_iff_getElem.2 ⟨j - n, by omega, by congr 1; omega⟩, l, h3, h4⟩
  ·rintro ⟨c, hc, l, h3, h4⟩
   obtain ⟨j, hj, rfl⟩ := List.mem_drop_iff_getElem.1 hc
   exact ⟨n + j, by omega, by omega, by unfold pt; rw [if_neg (by omega)], l, h3, h4⟩
 rw [e1, e2]
def zeq (S : List (List Int)) (n : Nat) : List Int := (List.range (zgo S).toNat).map fun i : Nat => colV S n ((i : Int) + 1)
end Go.Proofs.Yteeaofpphmhjdaa
