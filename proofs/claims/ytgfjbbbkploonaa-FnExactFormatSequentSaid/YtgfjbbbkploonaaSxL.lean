/-
  The walk over plain data: what the arguments are known to be; the states at a loop's head.
  Conditions: none.
-/
import Derived.Test.YtgfjbbbkploonaaSxK
namespace Go.Proofs.Ytgfjbbbkploonaa
set_option linter.unusedSimpArgs false
set_option linter.unusedVariables false
open Go.RowKit
variable {P : Program}

mutual
/-- What every datum in memory is: integers within their kind, lengths within int. -/
def wfT : T → Prop
  | .int k n => k.min ≤ n ∧ n ≤ k.max
  | .bool _ => True
  | .str s => s.length ≤ maxI
  | .sl _ rows => rows.length ≤ maxI ∧ wfRows rows
  | .ptr cells => wfTs cells
  | .fn _ caps => wfTs caps
  | .mp _ rows => wfRows rows
def wfRows : List (List T) → Prop
  | [] => True
  | r :: rows => wfTs r ∧ wfRows rows
def wfTs : List T → Prop
  | [] => True
  | t :: ts => wfT t ∧ wfTs ts
end
mutual
theorem RepV.wf {w : World} {A : Nat → Prop} : ∀ (t : T) (v : Value), RepV w A t v → wfT t
  | .int _ _, _, h => by unfold RepV at h; unfold wfT; exact h.2
  | .bool _, _, _ => by unfold wfT; trivial
  | .str _, _, h => by unfold RepV at h; unfold wfT; exact h.2
  | .sl sz rows, v, h => by
    unfold RepV at h
    unfold wfT
    obtain ⟨ao, cap, h1, h2, h3, h4⟩ := h
    refine ⟨Nat.le_trans h2 h3, ?_⟩
    rcases h4 with h4 | ⟨b, o, h4, h5, h6⟩
    · subst h4; unfold wfRows; trivial
    · exact RepRows.wf b o sz rows h6
  | .ptr cells, v, h => by
    unfold RepV at h
    unfold wfT
    obtain ⟨b, o, h1, h2, h3⟩ := h
    exact RepAt.wf b o cells h3
  | .fn f caps, v, h => by
    unfold RepV at h
    unfold wfT
    obtain ⟨vs, h1, h2⟩ := h
    exact RepAll.wf caps vs h2
  | .mp ag rows, v, h => by
    unfold RepV at h
    unfold wfT
    obtain ⟨b, es, clk, h1, h2, h3, h4⟩ := h
    exact RepEnts.wf ag rows _ h4
theorem RepEnts.wf {w : World} {A : Nat → Prop} (ag : Bool) : ∀ (rows : List (List T)) (es : List MapEntry), RepEnts w A ag rows es → wfRows rows
  | [], _, _ => by unfold wfRows; trivial
  | r :: rest, _, h => by
    unfold RepEnts at h
    unfold wfRows
    obtain ⟨e, es', us, h1, h2, h3, h4⟩ := h
    exact ⟨RepAll.wf r _ h3, RepEnts.wf ag rest es' h4⟩
theorem RepRows.wf {w : World} {A : Nat → Prop} (b : Nat) : ∀ (o sz : Nat) (rows : List (List T)), RepRows w A b o sz rows → wfRows rows
  | _, _, [], _ => by unfold wfRows; trivial
  | o, sz, r :: rest, h => by
    unfold RepRows at h
    unfold wfRows
    exact ⟨RepAt.wf b o r h.2.1, RepRows.wf b (o + sz) sz rest h.2.2⟩
theorem RepAt.wf {w : World} {A : Nat → Prop} (b : Nat) : ∀ (o : Nat) (cs : List T), RepAt w A b o cs → wfTs cs
  | _, [], _ => by unfold wfTs; trivial
  | o, c :: cs, h => by
    unfold RepAt at h
    unfold wfTs
    obtain ⟨⟨v, _, h2⟩, h3⟩ := h
    exact ⟨RepV.wf c v h2, RepAt.wf b (o + 1) cs h3⟩
theorem RepAll.wf {w : World} {A : Nat → Prop} : ∀ (cs : List T) (vs : List Value), RepAll w A cs vs → wfTs cs
  | [], _, _ => by unfold wfTs; trivial
  | c :: cs, vs, h => by
    unfold RepAll at h
    unfold wfTs
    obtain ⟨v, vs', h1, h2, h3⟩ := h
    exact ⟨RepV.wf c v h2, RepAll.wf cs vs' h3⟩
end
theorem wfRows_mem : ∀ {rows : List (List T)}, wfRows rows → ∀ r ∈ rows, wfTs r
  | [], _, r, hr => by simp at hr
  | r0 :: rows, h, r, hr => by
    unfold wfRows at h
    rcases List.mem_cons.1 hr with rfl | hr
    · exact h.1
    · exact wfRows_mem h.2 r hr
def wfDs : List D → Prop
  | [] => True
  | .one t :: ds => wfT t ∧ wfDs ds
  | .agg ts :: ds => wfTs ts ∧ wfDs ds
theorem RepDs.wf {w : World} {A : Nat → Prop} : ∀ {ds : List D} {vs : List Value}, RepDs w A ds vs → wfDs ds
  | [], _, _ => trivial
  | .one t :: ds, vs, h => by obtain ⟨v, vs', _, h1, h2⟩ := h; exact ⟨RepV.wf t v h1, RepDs.wf h2⟩
  | .agg ts :: ds, vs, h => by obtain ⟨v, vs', _, ⟨a, _, h1⟩, h2⟩ := h; exact ⟨RepAll.wf ts a h1, RepDs.wf h2⟩
theorem OwnV.wf {w : World} {t : T} {v : Value} {fp : List Nat} (h : OwnV w t v fp) : wfT t := RepV.wf t v (OwnV.rep (A := fun _ => True) t v fp h fun _ _ => trivial)
theorem GAll.wf {w : World} : ∀ {ts : List T} {vs : List Value} {fp tp : List Nat}, GAll w ts vs fp tp → wfTs ts
  | [], _, _, _, _ => by unfold wfTs; trivial
  | t :: ts, _, _, _, h => by obtain ⟨v, vs', f1, f2, t2, _, _, _, h1, h2⟩ := h; unfold wfTs; exact ⟨h1.wf, GAll.wf h2⟩
theorem GArgs.wfG {w : World} {A : Nat → Prop} : ∀ {ds : List (Bool × D)} {vs : List Value} {fp tp : List Nat}, GArgs w A ds vs fp tp → wfDs (ds.map (·.2))
  | [], _, _, _, _ => trivial
  | (false, .one t) :: ds, _, _, _, h => by obtain ⟨v, vs', _, h1, h2⟩ := h; exact ⟨RepV.wf t v h1, GArgs.wfG h2⟩
  | (false, .agg ts) :: ds, _, _, _, h => by obtain ⟨v, vs', _, ⟨a, _, h1⟩, h2⟩ := h; exact ⟨RepAll.wf ts a h1, GArgs.wfG h2⟩
  | (true, .one t) :: ds, _, _, _, h => by obtain ⟨v, vs', f1, f2, t1, t2, _, _, _, h1, h2⟩ := h; exact ⟨h1.1.wf, GArgs.wfG h2⟩
  | (true, .agg ts) :: ds, _, _, _, h => by obtain ⟨v, vs', f1, f2, t1, t2, _, _, _, ⟨a, _, h1⟩, h2⟩ := h; exact ⟨h1.wf, GArgs.wfG h2⟩
theorem GArgs.wf {w : World} {A : Nat → Prop} : ∀ {ds : List D} {vs : List Value} {fp tp : List Nat}, GArgs w A (rd ds) vs fp tp → wfDs ds
  | [], _, _, _, _ => trivial
  | .one t :: ds, _, _, _, h => by obtain ⟨v, vs', _, h1, h2⟩ := h; exact ⟨RepV.wf t v h1, GArgs.wf h2⟩
  | .agg ts :: ds, _, _, _, h => by obtain ⟨v, vs', _, ⟨a, _, h1⟩, h2⟩ := h; exact ⟨RepAll.wf ts a h1, GArgs.wf h2⟩
/-- The head of a walk: what the arguments are may be used. -/
theorem FC_wf {f : FuncId} {args res : List D} (h : wfDs args → FC P f args res) (hc : Callable P f) : FC P f args res :=
  ⟨hc, fun w vs fp tp hv => (h hv.wf).2 w vs fp tp hv⟩
theorem GC_wf {f : FuncId} {args : List (Bool × D)} {res : List D} (h : wfDs (args.map (·.2)) → GC P f args res) (hc : Callable P f) : GC P f args res :=
  ⟨hc, fun w vs fp tp hv => (h hv.wfG).2 w vs fp tp hv⟩
theorem RC_wf {f : FuncId} {args res : List D} (h : wfDs args → RC P f args res) (hc : Callable P f) : RC P f args res :=
  ⟨hc, fun w vs A hv => (h hv.wf).2 w vs A hv⟩

/- A state that is given by lists. -/
def upds : List (Nat × V) → Nat → V
  | [], _ => .one .any
  | (j, v) :: l, i => if i = j then v else upds l i
def tbl {α : Type} : List (Nat × α) → Nat → Option α
  | [], _ => none
  | (j, v) :: l, i => if i = j then some v else tbl l i
def hd (l : List (Nat × V)) (bl : List (Nat × List C)) (el : List (Nat × Ev)) : St := ⟨upds l, tbl bl, tbl el⟩
theorem hd_sl (l : List (Nat × V)) (bl : List (Nat × List C)) (el : List (Nat × Ev)) : (hd l bl el).sl = upds l := rfl
theorem hd_bx (l : List (Nat × V)) (bl : List (Nat × List C)) (el : List (Nat × Ev)) : (hd l bl el).bx = tbl bl := rfl
theorem hd_ev (l : List (Nat × V)) (bl : List (Nat × List C)) (el : List (Nat × Ev)) : (hd l bl el).ev = tbl el := rfl
theorem upds_nil (i : Nat) : upds [] i = .one .any := rfl
theorem upds_cons (j : Nat) (v : V) (l : List (Nat × V)) (i : Nat) : upds ((j, v) :: l) i = if i = j then v else upds l i := rfl
theorem tbl_nil {α : Type} (i : Nat) : tbl ([] : List (Nat × α)) i = none := rfl
theorem tbl_cons {α : Type} (j : Nat) (v : α) (l : List (Nat × α)) (i : Nat) : tbl ((j, v) :: l) i = if i = j then some v else tbl l i := rfl
def wkL (σ σ' : St) : List (Nat × V) → Prop
  | [] => True
  | (i, v) :: l => VW σ σ' (σ.sl i) v ∧ wkL σ σ' l
def wkB (σ σ' : St) : List (Nat × List C) → Prop
  | [] => True
  | (b, cs) :: l => onSome (σ.bx b) (fun cs0 => CWs σ σ' cs0 cs) ∧ wkB σ σ' l
def wk1 (x : Ev) : Option Ev → Prop
  | some y => x = { y with gen := x.gen }
  | none => x.rows = [] ∧ x.on = true
def wkE (σ : St) : List (Nat × Ev) → Prop
  | [] => True
  | (e, x) :: l => wk1 x (σ.ev e) ∧ wkE σ l
theorem weak_hd {σ : St} {l : List (Nat × V)} {bl : List (Nat × List C)} {el : List (Nat × Ev)} (h : wkL σ (hd l bl el) l ∧ wkB σ (hd l bl el) bl ∧ wkE σ el) : Wk σ (hd l bl el) := by
  obtain ⟨h1, h2, h3⟩ := h
  refine Weak.wk ⟨fun i => ?_, fun b cs hb => ?_, fun e x he => ?_⟩
  · show VW σ (hd l bl el) (σ.sl i) (upds l i)
    clear h2 h3
    generalize hd l bl el = σ' at h1
    induction l with
    | nil => unfold upds VW; cases σ.sl i <;> trivial
    | cons p l ih =>
      obtain ⟨j, v⟩ := p
      unfold upds
      by_cases hij : i = j
      · subst hij
        rw [if_pos rfl]
        exact h1.1
      · rw [if_neg hij]
        exact ih h1.2
  · have hb' : tbl bl b = some cs := hb
    clear hb h1 h3
    generalize hd l bl el = σ' at h2
    revert h2
    induction bl with
    | nil => cases hb'
    | cons p bl ih =>
      obtain ⟨j, v⟩ := p
      intro h2
      unfold tbl at hb'
      by_cases hij : b = j
      · subst hij
        rw [if_pos rfl] at hb'
        cases hb'
        have h := h2.1
        unfold onSome at h
        split at h
        · exact ⟨_, ‹_›, h⟩
        · exact h.elim
      · rw [if_neg hij] at hb'
        exact ih hb' h2.2
  · have he' : tbl el e = some x := he
    clear he h1 h2
    induction el with
    | nil => cases he'
    | cons p el ih =>
      obtain ⟨j, v⟩ := p
      unfold tbl at he'
      by_cases hij : e = j
      · subst hij
        rw [if_pos rfl] at he'
        cases he'
        have h := h3.1
        cases hx : σ.ev e with
        | none => rw [hx] at h; exact Or.inr ⟨rfl, h⟩
        | some y => rw [hx] at h; exact Or.inl ⟨y, rfl, h⟩
      · rw [if_neg hij] at he'
        exact ih h3.2 he'

/- Short words. -/
def vI (n : Int) : V := .one (.t (.int .i64 n))
def vB (b : Bool) : V := .one (.t (.bool b))
def vT (t : T) : V := .one (.t t)
def tI (n : Int) : T := .int .i64 n

theorem wrap_in {n : Int} (h1 : -9223372036854775808 ≤ n) (h2 : n ≤ 9223372036854775807) : IntKind.i64.wrap n = n := by
  rw [IntKind.wrap_i64]; omega
theorem wrap_succ {k : Nat} (h : k < maxI) : IntKind.i64.wrap ((k : Int) + 1) = ((k + 1 : Nat) : Int) := by
  unfold maxI at h; rw [wrap_in (by omega) (by omega)]; omega
theorem VW_t (σ σ' : St) (x y : T) : VW σ σ' (.one (.t x)) (.one (.t y)) = (x = y) := rfl
theorem ev_gen (d : Bool) (sz : Nat) (rows : List (List T)) (g g' : Nat) (o : Bool) (d' : Bool) (sz' : Nat) (rows' : List (List T)) (g0 : Nat) (o' : Bool) : ((⟨d, sz, rows, g, o⟩ : Ev) = { (⟨d', sz', rows', g0, o'⟩ : Ev) with gen := (⟨d, sz, rows, g', o⟩ : Ev).gen }) = (d = d' ∧ sz = sz' ∧ rows = rows' ∧ g = g' ∧ o = o') := by simp
theorem eq_self' {α : Type} (a : α) : (a = a) = True := by simp
theorem wk1_some (x y : Ev) : wk1 x (some y) = (x = { y with gen := x.gen }) := rfl
theorem wk1_none (x : Ev) : wk1 x none = (x.rows = [] ∧ x.on = true) := rfl
attribute [go_sem] wk1_some wk1_none hd_sl hd_bx hd_ev upds_nil upds_cons tbl_nil tbl_cons wkL wkB wkE VW_t VW CW CWs genOf ev_gen vI vB vT tI allBx
end Go.Proofs.Ytgfjbbbkploonaa
