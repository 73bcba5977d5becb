/-
  States of a walk over plain data: what the slots, the boxes and the slices of the call's own hold.
  Conditions: none.
-/
import Derived.Test.YtgfjbbbkploonaaSxA
namespace Go.Proofs.Ytgfjbbbkploonaa
set_option linter.unusedSimpArgs false
set_option linter.unusedVariables false
open Go.RowKit

/-- What one cell holds: a datum; the nil slice; the owned slice e at its g-th stage; a pointer to cell o of box b; a pointer to cell o of cells that are only read; a pointer to cell o of element i of the owned slice e (sz cells an element) at its g-th stage; a function with captured boxes; a value; anything. -/
inductive C where
  | t (x : T)
  | nl (s : Nat)
  | ow (e g : Nat)
  | bx (b o : Nat)
  | el (cs : List T) (o : Nat)
  | eo (e g sz i o : Nat)
  | fn (f : FuncId) (caps : List Nat)
  | cv (v : Value)
  | any

/-- What a slot holds. -/
inductive V where
  | one (c : C)
  | agg (cs : List C)
  | tup (xs : List (Bool × List C))

/-- An owned slice: whether its elements are owned, too; the cells of an element; the elements; its stage; whether it is still the call's own (else it is only read). -/
structure Ev where
  deep : Bool
  sz : Nat
  rows : List (List T)
  gen : Nat
  on : Bool

structure St where
  sl : Nat → V
  bx : Nat → Option (List C)
  ev : Nat → Option Ev

/-- The owned slice e has been at its n-th stage. -/
def St.has (σ : St) (e n : Nat) : Prop := ∃ x, σ.ev e = some x ∧ n ≤ x.gen
/-- The owned slice e is the call's own. -/
def St.On (σ : St) (e : Nat) : Prop := ∃ x, σ.ev e = some x ∧ x.on = true

/-- What is kept through a walk: the blocks that may be owned, and values that are remembered (in places behind all slots). -/
structure RP where
  p : Nat → Prop
  ξ : Nat → Value
  lo : ∀ i, i < 1000000 → ξ i = undef
  nb : ∀ i b, ξ i ≠ .bool b
instance : CoeFun RP (fun _ => Nat → Prop) := ⟨RP.p⟩
def RP.of (p : Nat → Prop) : RP := ⟨p, fun _ => undef, fun _ _ => rfl, fun _ _ h => by cases h⟩
/-- Where the boxes and the owned slices lie. -/
structure Gh where
  β : Nat → Nat
  ψ : Nat → Nat → Value
  φ : Nat → List Nat
  A0 : Nat → Prop
  R0 : RP

/-- The blocks that nothing writes to. -/
def Fix (σ : St) (g : Gh) (w : World) (b : Nat) : Prop :=
  (∀ k, σ.bx k ≠ none → g.β k ≠ b) ∧ (∀ e x, σ.ev e = some x → x.on = true → (g.φ e).head? ≠ some b) ∧ b < w.heap.size ∧ g.A0 b

def CR (σ : St) (g : Gh) (w : World) : C → Value → Prop
  | .t x, v => RepV w (Fix σ g w) x v
  | .nl _, v => v = .slice none 0 0
  | .ow e n, v => v = g.ψ e n ∧ σ.has e n
  | .bx b o, v => v = .pointer (some ⟨g.β b, o, none⟩) ∧ σ.bx b ≠ none
  | .el cs o, v => ∃ b q, v = .pointer (some ⟨b, q + o, none⟩) ∧ Fix σ g w b ∧ RepAt w (Fix σ g w) b q cs
  | .eo e s sz i o, v => ∃ b n c, g.ψ e s = .slice (some ⟨b, 0, none⟩) n c ∧ v = .pointer (some ⟨b, i * sz + o, none⟩) ∧ i < n ∧ σ.has e s
  | .fn f caps, v => v = .func (.func f) #[] ⟨caps.map fun b => .pointer (some ⟨g.β b, 0, none⟩)⟩ ∧ ∀ b ∈ caps, σ.bx b ≠ none
  | .cv u, v => v = u
  | .any, _ => True

def CRs (σ : St) (g : Gh) (w : World) : List C → List Value → Prop
  | [], vs => vs = []
  | c :: cs, vs => ∃ v vs', vs = v :: vs' ∧ CR σ g w c v ∧ CRs σ g w cs vs'

/-- One component of a tuple. -/
def CRx (σ : St) (g : Gh) (w : World) (x : Bool × List C) (u : Value) : Prop :=
  if x.1 = true then ∃ a, u = .agg ⟨a⟩ ∧ CRs σ g w x.2 a else ∃ c, x.2 = [c] ∧ CR σ g w c u
def CRt (σ : St) (g : Gh) (w : World) : List (Bool × List C) → List Value → Prop
  | [], vs => vs = []
  | x :: xs, vs => ∃ v vs', vs = v :: vs' ∧ CRx σ g w x v ∧ CRt σ g w xs vs'

def VR (σ : St) (g : Gh) (w : World) : V → Value → Prop
  | .one c, v => CR σ g w c v
  | .agg cs, v => ∃ a, v = .agg ⟨a⟩ ∧ CRs σ g w cs a
  | .tup xs, v => ∃ vs, v = .tuple ⟨vs⟩ ∧ CRt σ g w xs vs

/-- A slice that is nil, or begins at a block's head. -/
def Hd0 (v : Value) : Prop := ∀ b o s n c, v = .slice (some ⟨b, o, s⟩) n c → o = 0 ∧ s = none
/-- An owned slice, in memory. -/
def EvR (w : World) (A : Nat → Prop) (x : Ev) (v : Value) (fp : List Nat) : Prop :=
  ∃ ao cap, v = .slice ao x.rows.length cap ∧ x.rows.length ≤ cap ∧ cap ≤ maxI ∧ ((ao = none ∧ cap = 0 ∧ x.rows = [] ∧ fp = []) ∨
    ∃ b cells ty fps, ao = some ⟨b, 0, none⟩ ∧ fp = b :: fps ∧ w.heap[b]? = some (.cells cells ty (0, 0)) ∧ cells.size = cap * x.sz ∧
      if x.deep = true then OwnRows w cells 0 x.sz x.rows fps else (fps = [] ∧ RepRows w A b 0 x.sz x.rows))

/-- The blocks of n0 are there. -/
def LtK (n0 : Nat → Prop) (w : World) : Prop := ∀ k, n0 k → k < w.heap.size
/-- The blocks of n0 are as they were. -/
structure Bk (n0 : Nat → Prop) (w w' : World) : Prop where
  os : w'.os = w.os
  tape : w'.tape = w.tape
  output : w'.output = w.output
  size : w.heap.size ≤ w'.heap.size
  block : ∀ k, n0 k → w'.heap[k]? = w.heap[k]?
theorem Bk.refl (n0 : Nat → Prop) (w : World) : Bk n0 w w := ⟨rfl, rfl, rfl, Nat.le_refl _, fun _ _ => rfl⟩
theorem Bk.trans {n0 : Nat → Prop} {a b c : World} (h : Bk n0 a b) (k : Bk n0 b c) : Bk n0 a c :=
  ⟨k.os.trans h.os, k.tape.trans h.tape, k.output.trans h.output, Nat.le_trans h.size k.size, fun i hi => (k.block i hi).trans (h.block i hi)⟩
theorem Bk.of_below {n0 : Nat → Prop} {w w' : World} (h : Below w.heap.size w w') (hn : LtK n0 w) : Bk n0 w w' := ⟨h.os, h.tape, h.output, h.size, fun k hk => h.block k (hn k hk)⟩
theorem LtK.mono {n0 : Nat → Prop} {w w' : World} (h : LtK n0 w) (hb : w.heap.size ≤ w'.heap.size) : LtK n0 w' := fun k hk => Nat.lt_of_lt_of_le (h k hk) hb
theorem LtK.new {n0 : Nat → Prop} {w : World} (h : LtK n0 w) {b : Nat} (hb : w.heap.size ≤ b) : ¬ n0 b := fun hk => by have := h b hk; omega

structure Rel (n0 : Nat → Prop) (N : Nat) (σ : St) (g : Gh) (a : Act) (w : World) : Prop where
  defers : a.defers = []
  size : a.tmps.size = N
  anew : ∀ b, ¬ n0 b → g.A0 b ∧ g.R0 b
  slots : ∀ i, VR σ g w (σ.sl i) (a.tmps.getD i (g.R0.ξ i))
  boxes : ∀ b cs, σ.bx b = some cs → ∃ vs ty, w.heap[g.β b]? = some (.cells vs ty (0, 0)) ∧ CRs σ g w cs vs.toList
  base : ∀ b, σ.bx b ≠ none → ¬ n0 (g.β b)
  inj : ∀ b b', σ.bx b ≠ none → σ.bx b' ≠ none → g.β b = g.β b' → b = b'
  evs : ∀ e x, σ.ev e = some x → x.on = true → EvR w (Fix σ g w) x (g.ψ e x.gen) (g.φ e)
  offs : ∀ e x, σ.ev e = some x → x.on = false → RepV w (Fix σ g w) (.sl x.sz x.rows) (g.ψ e x.gen) ∧ Hd0 (g.ψ e x.gen)
  slc : ∀ e n, ∃ ao l c, g.ψ e n = .slice ao l c
  ebase : ∀ e, σ.On e → ∀ b ∈ g.φ e, g.A0 b ∧ g.R0 b
  etop : ∀ e, σ.On e → ∀ b ∈ g.φ e, ¬ n0 b
  nodup : ∀ e, σ.On e → (g.φ e).Nodup
  apart : ∀ e e', σ.On e → σ.On e' → e ≠ e' → ∀ b ∈ g.φ e, b ∉ g.φ e'
  ebx : ∀ e k, σ.On e → σ.bx k ≠ none → g.β k ∉ g.φ e

def upd {α : Type} (f : Nat → α) (i : Nat) (x : α) : Nat → α := fun j => if j = i then x else f j
theorem upd_same {α : Type} (f : Nat → α) (i : Nat) (x : α) : upd f i x i = x := by simp [upd]
theorem upd_ne {α : Type} (f : Nat → α) {i j : Nat} (x : α) (h : j ≠ i) : upd f i x j = f j := by simp [upd, h]
end Go.Proofs.Ytgfjbbbkploonaa
