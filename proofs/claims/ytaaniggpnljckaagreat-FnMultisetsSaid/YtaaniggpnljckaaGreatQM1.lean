/-
  The walk over plain data, and contracts of functions of the program and of its laws.
  Conditions: those that each theorem names.
-/
import Derived.WalkKit
import Derived.MapKept
import Derived.ProofKit
import Derived.Laws.BytesArg
namespace Go.Proofs.YtaaniggpnljckaaGreat
set_option linter.unusedSimpArgs false
set_option linter.unusedVariables false
set_option linter.unusedSectionVars false
set_option maxRecDepth 4000
open Go.RowKit
inductive T where
 | int (k : IntKind) (n : Int)
 | bool (b : Bool)
 | str (s : List UInt8)
 | sl (sz : Nat) (rows : List (List T))
 | ptr (cells : List T)
 | fn (f : FuncId) (caps : List T)
 | mp (ag : Bool) (rows : List (List T))
 | pin (v : Value) (t : T)
 | vs (ao : Option Addr) (len cap : Nat)
 | nmp
 | cl (f : FuncId) (caps : List Value)
 | mq (ag : Bool) (rows : List (List T))
abbrev zds : Nat := 9223372036854775807
mutual
def zai (w : World) (A : Nat -> Prop) : T -> Value -> Prop
 | .int k n, v => v = .int k n /\ k.min <= n /\ n <= k.max
 | .bool b, v => v = .bool b
 | .str s, v => v = .string ⟨s.toArray⟩ /\ s.length <= zds
 | .sl sz rows, v => ∃ ao cap, v = .slice ao rows.length cap /\ rows.length <= cap /\ cap <= zds /\ (rows = [] \/ ∃ b o, ao = some ⟨b, o, none⟩ /\ A b /\ zak w A b o sz rows)
 | .ptr cells, v => ∃ b o, v = .pointer (some ⟨b, o, none⟩) /\ A b /\ zaz w A b o cells
 | .fn f caps, v => ∃ vs, v = .func (.func f) #[] ⟨vs⟩ /\ zad w A caps vs
 | .mp ag rows, v => ∃ b es clk, v = .map (some b) /\ A b /\ w.heap[b]? = some (.map es clk) /\ zbn w A ag rows es.toList
 | .pin u t, v => v = u /\ zai w A t v
 | .vs ao l c, v => v = .slice ao l c
 | .nmp, v => v = .map none
 | .cl f caps, v => v = .func (.func f) #[] ⟨caps⟩
 | .mq ag rows, v => ∃ b es clk, v = .map (some b) /\ A b /\ w.heap[b]? = some (.map es clk) /\ zbn w A ag rows es.toList /\ Go.MapKept.Stamped es clk
def zbn (w : World) (A : Nat -> Prop) (ag : Bool) : List (List T) -> List MapEntry -> Prop
 | [], es => es = []
 | r :: rest, es => ∃ e es' us, es = e :: es' /\ (if ag = true then e.val = .agg ⟨us⟩ else us = [e.val]) /\ zad w A r (e.key :: us) /\ zbn w A ag rest es'
def zak (w : World) (A : Nat -> Prop) (b : Nat) : Nat -> Nat -> List (List T) -> Prop
 | _, _, [] => True
 | o, sz, r :: rest => r.length = sz /\ zaz w A b o r /\ zak w A b (o + sz) sz rest
def zaz (w : World) (A : Nat -> Prop) (b : Nat) : Nat -> List T -> Prop
 | _, [] => True
 | o, c :: cs => (∃ v, w.cell? ⟨b, o, none⟩ = some v /\ zai w A c v) /\ zaz w A b (o + 1) cs
def zad (w : World) (A : Nat -> Prop) : List T -> List Value -> Prop
 | [], vs => vs = []
 | c :: cs, vs => ∃ v vs', vs = v :: vs' /\ zai w A c v /\ zad w A cs vs'
end
theorem zub {w w' : World} {b : Nat} (h : w'.heap[b]? = w.heap[b]?) (o : Nat) : w'.cell? ⟨b, o, none⟩ = w.cell? ⟨b, o, none⟩ := by
 simp [World.cell?, h]
mutual
theorem zai.keep {w w' : World} {A A' : Nat -> Prop} (hs : ∀ b, A b -> w'.heap[b]? = w.heap[b]?) (ha : ∀ b, A b -> A' b) : ∀ (t : T) (v : Value), zai w A t v -> zai w' A' t v
 | .int _ _, _, h => by unfold zai at h ⊢; exact h
 | .bool _, _, h => by unfold zai at h ⊢; exact h
 | .str _, _, h => by unfold zai at h ⊢; exact h
 | .sl sz rows, v, h => by
  unfold zai at h ⊢
  obtain ⟨ao, cap, h1, h2, h3, h4⟩ := h
  refine ⟨ao, cap, h1, h2, h3, ?_⟩
  rcases h4 with h4 | ⟨b, o, h4, h5, h6⟩
  ·exact Or.inl h4
  ·exact Or.inr ⟨b, o, h4, ha b h5, zak.keep hs ha b (hs b h5) o sz rows h6⟩
 | .ptr cells, v, h => by
  unfold zai at h ⊢
  obtain ⟨b, o, h1, h2, h3⟩ := h
  exact ⟨b, o, h1, ha b h2, zaz.keep hs ha b (hs b h2) o cells h3⟩
 | .fn f caps, v, h => by
  unfold zai at h ⊢
  obtain ⟨vs, h1, h2⟩ := h
  exact ⟨vs, h1, zad.keep hs ha caps vs h2⟩
 | .mp ag rows, v, h => by
  unfold zai at h ⊢
  obtain ⟨b, es, clk, h1, h2, h3, h4⟩ := h
  exact ⟨b, es, clk, h1, ha b h2, by rw [hs b h2]; exact h3, zbn.keep hs ha ag rows es.toList h4⟩
 | .pin u t, v, h => by
  unfold zai at h ⊢
  exact ⟨h.1, zai.keep hs ha t v h.2⟩
 | .vs _ _ _, _, h => by unfold zai at h ⊢; exact h
 | .nmp, _, h => by unfold zai at h ⊢; exact h
 | .cl _ _, _, h => by unfold zai at h ⊢; exact h
 | .mq ag rows, v, h => by
  unfold zai at h ⊢
  obtain ⟨b, es, clk, h1, h2, h3, h4, h5⟩ := h
  exact ⟨b, es, clk, h1, ha b h2, by rw [hs b h2]; exact h3, zbn.keep hs ha ag rows es.toList h4, h5⟩
theorem zbn.keep {w w' : World} {A A' : Nat -> Prop} (hs : ∀ b, A b -> w'.heap[b]? = w.heap[b]?) (ha : ∀ b, A b -> A' b) (ag : Bool) : ∀ (rows : List (List T)) (es : List MapEntry), zbn w A ag rows es -> zbn w' A' ag rows es
 | [], _, h => by unfold zbn at h ⊢; exact h
 | r :: rest, _, h => by
  unfold zbn at h ⊢
  obtain ⟨e, es', us, h1, h2, h3, h4⟩ := h
  exact ⟨e, es', us, h1, h2, zad.keep hs ha r _ h3, zbn.keep hs ha ag rest es' h4⟩
theorem zak.keep {w w' : World} {A A' : Nat -> Prop} (hs : ∀ b, A b -> w'.heap[b]? = w.heap[b]?) (ha : ∀ b, A b -> A' b) (b : Nat) (hb : w'.heap[b]? = w.heap[b]?) : ∀ (o sz : Nat) (rows : List (List T)), zak w A b o sz rows -> zak w' A' b o sz rows
 | _, _, [], _ => by unfold zak; trivial
 | o, sz, r :: rest, h => by
  unfold zak at h ⊢
  exact ⟨h.1, zaz.keep hs ha b hb o r h.2.1, zak.keep hs ha b hb (o + sz) sz rest h.2.2⟩
theorem zaz.keep {w w' : World} {A A' : Nat -> Prop} (hs : ∀ b, A b -> w'.heap[b]? = w.heap[b]?) (ha : ∀ b, A b -> A' b) (b : Nat) (hb : w'.heap[b]? = w.heap[b]?) : ∀ (o : Nat) (cs : List T), zaz w A b o cs -> zaz w' A' b o cs
 | _, [], _ => by unfold zaz; trivial
 | o, c :: cs, h => by
  unfold zaz at h ⊢
  obtain ⟨⟨v, h1, h2⟩, h3⟩ := h
  exact ⟨⟨v, by rw [zub hb]; exact h1, zai.keep hs ha c v h2⟩, zaz.keep hs ha b hb (o + 1) cs h3⟩
theorem zad.keep {w w' : World} {A A' : Nat -> Prop} (hs : ∀ b, A b -> w'.heap[b]? = w.heap[b]?) (ha : ∀ b, A b -> A' b) : ∀ (cs : List T) (vs : List Value), zad w A cs vs -> zad w' A' cs vs
 | [], _, h => by unfold zad at h ⊢; exact h
 | c :: cs, vs, h => by
  unfold zad at h ⊢
  obtain ⟨v, vs', h1, h2, h3⟩ := h
  exact ⟨v, vs', h1, zai.keep hs ha c v h2, zad.keep hs ha cs vs' h3⟩
end
theorem zaz.at {w : World} {A : Nat -> Prop} {b : Nat} : ∀ {cs : List T} {o : Nat}, zaz w A b o cs -> ∀ j c, cs[j]? = some c -> ∃ v, w.cell? ⟨b, o + j, none⟩ = some v /\ zai w A c v
 | [], _, _, j, c, h => by simp at h
 | d :: cs, o, h, 0, c, hj => by
  unfold zaz at h
  simp only [List.getElem?_cons_zero, Option.some.injEq] at hj
  subst hj
  exact h.1
 | d :: cs, o, h, j + 1, c, hj => by
  unfold zaz at h
  have := zaz.at h.2 j c (by simpa using hj)
  rwa [show o + 1 + j = o + (j + 1) by omega] at this
theorem zaz.mk {w : World} {A : Nat -> Prop} {b : Nat} : ∀ {cs : List T} {o : Nat}, (∀ j c, cs[j]? = some c -> ∃ v, w.cell? ⟨b, o + j, none⟩ = some v /\ zai w A c v) -> zaz w A b o cs
 | [], _, _ => by unfold zaz; trivial
 | d :: cs, o, h => by
  unfold zaz
  refine ⟨h 0 d rfl, zaz.mk fun j c hj => ?_⟩
  have := h (j + 1) c (by simpa using hj)
  rwa [show o + (j + 1) = o + 1 + j by omega] at this
theorem zak.at {w : World} {A : Nat -> Prop} {b sz : Nat} : ∀ {rows : List (List T)} {o : Nat}, zak w A b o sz rows -> ∀ i r, rows[i]? = some r -> r.length = sz /\ zaz w A b (o + i * sz) r
 | [], _, _, i, r, h => by simp at h
 | d :: rest, o, h, 0, r, hj => by
  unfold zak at h
  simp only [List.getElem?_cons_zero, Option.some.injEq] at hj
  subst hj
  simpa using ⟨h.1, h.2.1⟩
 | d :: rest, o, h, i + 1, r, hj => by
  unfold zak at h
  have := zak.at h.2.2 i r (by simpa using hj)
  rwa [show o + sz + i * sz = o + (i + 1) * sz by rw [Nat.add_mul]; omega] at this
theorem zak.mk {w : World} {A : Nat -> Prop} {b sz : Nat} : ∀ {rows : List (List T)} {o : Nat}, (∀ i r, rows[i]? = some r -> r.length = sz /\ zaz w A b (o + i * sz) r) -> zak w A b o sz rows
 | [], _, _ => by unfold zak; trivial
 | d :: rest, o, h => by
  unfold zak
  refine ⟨(h 0 d rfl).1, by simpa using (h 0 d rfl).2, zak.mk fun i r hi => ?_⟩
  have := h (i + 1) r (by simpa using hi)
  rwa [show o + (i + 1) * sz = o + sz + i * sz by rw [Nat.add_mul]; omega] at this
theorem zad.len {w : World} {A : Nat -> Prop} : ∀ {cs : List T} {vs : List Value}, zad w A cs vs -> vs.length = cs.length
 | [], vs, h => by unfold zad at h; subst h; rfl
 | c :: cs, vs, h => by
  unfold zad at h
  obtain ⟨v, vs', rfl, _, h3⟩ := h
  simp [zad.len h3]
theorem zad.at {w : World} {A : Nat -> Prop} : ∀ {cs : List T} {vs : List Value}, zad w A cs vs -> ∀ (j : Nat) c, cs[j]? = some c -> ∃ v, vs[j]? = some v /\ zai w A c v
 | [], _, _, j, c, h => by simp at h
 | d :: cs, vs, h, 0, c, hj => by
  unfold zad at h
  obtain ⟨v, vs', rfl, h2, _⟩ := h
  simp only [List.getElem?_cons_zero, Option.some.injEq] at hj
  subst hj
  exact ⟨v, rfl, h2⟩
 | d :: cs, vs, h, j + 1, c, hj => by
  unfold zad at h
  obtain ⟨v, vs', rfl, _, h3⟩ := h
  simpa using zad.at h3 j c (by simpa using hj)
theorem zad.mk {w : World} {A : Nat -> Prop} : ∀ {cs : List T} {vs : List Value}, vs.length = cs.length -> (∀ (j : Nat) c v, cs[j]? = some c -> vs[j]? = some v -> zai w A c v) -> zad w A cs vs
 | [], vs, hl, _ => by unfold zad; exact List.length_eq_zero_iff.1 hl
 | c :: cs, [], hl, _ => by simp at hl
 | c :: cs, v :: vs, hl, h => by
  unfold zad
  exact ⟨v, vs, rfl, h 0 c v rfl rfl, zad.mk (by simpa using hl) fun j c v h1 h2 => h (j + 1) c v (by simpa using h1) (by simpa using h2)⟩
mutual
def zao (w : World) : T -> Value -> List Nat -> Prop
 | .int k n, v, fp => v = .int k n /\ k.min <= n /\ n <= k.max /\ fp = []
 | .bool b, v, fp => v = .bool b /\ fp = []
 | .str s, v, fp => v = .string ⟨s.toArray⟩ /\ s.length <= zds /\ fp = []
 | .sl sz rows, v, fp => ∃ ao cap, v = .slice ao rows.length cap /\ rows.length <= cap /\ cap <= zds /\ ((ao = none /\ cap = 0 /\ rows = [] /\ fp = []) ∨
   ∃ b cells ty fps, ao = some ⟨b, 0, none⟩ /\ fp = b :: fps /\ w.heap[b]? = some (.cells cells ty (0, 0)) /\ cells.size = cap * sz /\ zag w cells 0 sz rows fps)
 | .ptr _, _, _ => False
 | .fn _ _, _, _ => False
 | .mp _ _, _, _ => False
 | .pin u t, v, fp => v = u /\ zao w t v fp
 | .vs ao l c, v, fp => v = .slice ao l c /\ fp = []
 | .nmp, _, _ => False
 | .cl _ _, _, _ => False
 | .mq _ _, _, _ => False
def zag (w : World) (cells : Array Value) : Nat -> Nat -> List (List T) -> List Nat -> Prop
 | _, _, [], fps => fps = []
 | o, sz, r :: rest, fps => r.length = sz /\ ∃ f1 f2, fps = f1 ++ f2 /\ za4 w cells o r f1 /\ zag w cells (o + sz) sz rest f2
def za4 (w : World) (cells : Array Value) : Nat -> List T -> List Nat -> Prop
 | _, [], fps => fps = []
 | o, c :: cs, fps => ∃ v f1 f2, cells[o]? = some v /\ fps = f1 ++ f2 /\ zao w c v f1 /\ za4 w cells (o + 1) cs f2
end
def zav (w : World) : List T -> List Value -> List Nat -> Prop
 | [], vs, fps => vs = [] /\ fps = []
 | c :: cs, vs, fps => ∃ v vs' f1 f2, vs = v :: vs' /\ fps = f1 ++ f2 /\ zao w c v f1 /\ zav w cs vs' f2
mutual
theorem zao.keep {w w' : World} : ∀ (t : T) (v : Value) (fp : List Nat), zao w t v fp -> (∀ b ∈ fp, w'.heap[b]? = w.heap[b]?) -> zao w' t v fp
 | .int _ _, _, _, h, _ => by unfold zao at h ⊢; exact h
 | .bool _, _, _, h, _ => by unfold zao at h ⊢; exact h
 | .str _, _, _, h, _ => by unfold zao at h ⊢; exact h
 | .sl sz rows, v, fp, h, hs => by
  unfold zao at h ⊢
  obtain ⟨ao, cap, h1, h2, h3, h4⟩ := h
  refine ⟨ao, cap, h1, h2, h3, ?_⟩
  rcases h4 with h4 | ⟨b, cells, ty, fps, h4, h5, h6, h7, h8⟩
  ·exact Or.inl h4
  ·subst h5
   exact Or.inr ⟨b, cells, ty, fps, h4, rfl, by rw [hs b (by simp)]; exact h6, h7, zag.keep cells 0 sz rows fps h8 fun b' hb' => hs b' (by simp [hb'])⟩
 | .ptr _, _, _, h, _ => by unfold zao at h; exact h.elim
 | .fn _ _, _, _, h, _ => by unfold zao at h; exact h.elim
 | .mp _ _, _, _, h, _ => by unfold zao at h; exact h.elim
 | .pin u t, v, fp, h, hs => by unfold zao at h ⊢; exact ⟨h.1, zao.keep t v fp h.2 hs⟩
 | .vs _ _ _, _, _, h, _ => by unfold zao at h ⊢; exact h
 | .nmp, _, _, h, _ => by unfold zao at h; exact h.elim
 | .cl _ _, _, _, h, _ => by unfold zao at h; exact h.elim
 | .mq _ _, _, _, h, _ => by unfold zao at h; exact h.elim
theorem zag.keep {w w' : World} (cells : Array Value) : ∀ (o sz : Nat) (rows : List (List T)) (fps : List Nat), zag w cells o sz rows fps -> (∀ b ∈ fps, w'.heap[b]? = w.heap[b]?) -> zag w' cells o sz rows fps
 | _, _, [], _, h, _ => by unfold zag at h ⊢; exact h
 | o, sz, r :: rest, fps, h, hs => by
  unfold zag at h ⊢
  obtain ⟨h1, f1, f2, rfl, h2, h3⟩ := h
  exact ⟨h1, f1, f2, rfl, za4.keep cells o r f1 h2 fun b hb => hs b (by simp [hb]), zag.keep cells (o + sz) sz rest f2 h3 fun b hb => hs b (by simp [hb])⟩
theorem za4.keep {w w' : World} (cells : Array Value) : ∀ (o : Nat) (cs : List T) (fps : List Nat), za4 w cells o cs fps -> (∀ b ∈ fps, w'.heap[b]? = w.heap[b]?) -> za4 w' cells o cs fps
 | _, [], _, h, _ => by unfold za4 at h ⊢; exact h
 | o, c :: cs, fps, h, hs => by
  unfold za4 at h ⊢
  obtain ⟨v, f1, f2, h1, rfl, h2, h3⟩ := h
  exact ⟨v, f1, f2, h1, rfl, zao.keep c v f1 h2 fun b hb => hs b (by simp [hb]), za4.keep cells (o + 1) cs f2 h3 fun b hb => hs b (by simp [hb])⟩
end
mutual
theorem zao.lt {w : World} : ∀ (t : T) (v : Value) (fp : List Nat), zao w t v fp -> ∀ b ∈ fp, b < w.heap.size
 | .int _ _, _, _, h, b, hb => by unfold zao at h; rw [h.2.2.2] at hb; simp at hb
 | .bool _, _, _, h, b, hb => by unfold zao at h; rw [h.2] at hb; simp at hb
 | .str _, _, _, h, b, hb => by unfold zao at h; rw [h.2.2] at hb; simp at hb
 | .sl sz rows, v, fp, h, b, hb => by
  unfold zao at h
  obtain ⟨ao, cap, h1, h2, h3, h4⟩ := h
  rcases h4 with ⟨_, _, _, rfl⟩ | ⟨b', cells, ty, fps, h4, h5, h6, h7, h8⟩
  ·simp at hb
  ·subst h5
   rcases List.mem_cons.1 hb with rfl | hb
   ·exact (Array.getElem?_eq_some_iff.1 h6).1
   ·exact zag.lt cells 0 sz rows fps h8 b hb
 | .ptr _, _, _, h, _, _ => by unfold zao at h; exact h.elim
 | .fn _ _, _, _, h, _, _ => by unfold zao at h; exact h.elim
 | .mp _ _, _, _, h, _, _ => by unfold zao at h; exact h.elim
 | .pin u t, v, fp, h, b, hb => by unfold zao at h; exact zao.lt t v fp h.2 b hb
 | .vs _ _ _, _, _, h, b, hb => by unfold zao at h; rw [h.2] at hb; simp at hb
 | .nmp, _, _, h, _, _ => by unfold zao at h; exact h.elim
 | .cl _ _, _, _, h, _, _ => by unfold zao at h; exact h.elim
 | .mq _ _, _, _, h, _, _ => by unfold zao at h; exact h.elim
theorem zag.lt {w : World} (cells : Array Value) : ∀ (o sz : Nat) (rows : List (List T)) (fps : List Nat), zag w cells o sz rows fps -> ∀ b ∈ fps, b < w.heap.size
 | _, _, [], _, h, b, hb => by unfold zag at h; rw [h] at hb; simp at hb
 | o, sz, r :: rest, fps, h, b, hb => by
  unfold zag at h
  obtain ⟨h1, f1, f2, rfl, h2, h3⟩ := h
  rcases List.mem_append.1 hb with hb | hb
  ·exact za4.lt cells o r f1 h2 b hb
  ·exact zag.lt cells (o + sz) sz rest f2 h3 b hb
theorem za4.lt {w : World} (cells : Array Value) : ∀ (o : Nat) (cs : List T) (fps : List Nat), za4 w cells o cs fps -> ∀ b ∈ fps, b < w.heap.size
 | _, [], _, h, b, hb => by unfold za4 at h; rw [h] at hb; simp at hb
 | o, c :: cs, fps, h, b, hb => by
  unfold za4 at h
  obtain ⟨v, f1, f2, h1, rfl, h2, h3⟩ := h
  rcases List.mem_append.1 hb with hb | hb
  ·exact zao.lt c v f1 h2 b hb
  ·exact za4.lt cells (o + 1) cs f2 h3 b hb
end
mutual
theorem zao.rep {w : World} {A : Nat -> Prop} : ∀ (t : T) (v : Value) (fp : List Nat), zao w t v fp -> (∀ b ∈ fp, A b) -> zai w A t v
 | .int _ _, _, _, h, _ => by unfold zao at h; unfold zai; exact ⟨h.1, h.2.1, h.2.2.1⟩
 | .bool _, _, _, h, _ => by unfold zao at h; unfold zai; exact h.1
 | .str _, _, _, h, _ => by unfold zao at h; unfold zai; exact ⟨h.1, h.2.1⟩
 | .sl sz rows, v, fp, h, ha => by
  unfold zao at h
  unfold zai
  obtain ⟨ao, cap, h1, h2, h3, h4⟩ := h
  refine ⟨ao, cap, h1, h2, h3, ?_⟩
  rcases h4 with ⟨_, _, h4, _⟩ | ⟨b, cells, ty, fps, h4, h5, h6, h7, h8⟩
  ·exact Or.inl h4
  ·subst h5
   exact Or.inr ⟨b, 0, h4, ha b (by simp), zag.rep b cells ty h6 0 sz rows fps h8 fun b' hb' => ha b' (by simp [hb'])⟩
 | .ptr _, _, _, h, _ => by unfold zao at h; exact h.elim
 | .fn _ _, _, _, h, _ => by unfold zao at h; exact h.elim
 | .mp _ _, _, _, h, _ => by unfold zao at h; exact h.elim
 | .pin u t, v, fp, h, ha => by unfold zao at h; unfold zai; exact ⟨h.1, zao.rep t v fp h.2 ha⟩
 | .vs _ _ _, _, _, h, _ => by unfold zao at h; unfold zai; exact h.1
 | .nmp, _, _, h, _ => by unfold zao at h; exact h.elim
 | .cl _ _, _, _, h, _ => by unfold zao at h; exact h.elim
 | .mq _ _, _, _, h, _ => by unfold zao at h; exact h.elim
theorem zag.rep {w : World} {A : Nat -> Prop} (b : Nat) (cells : Array Value) (ty : TypeId) (hc : w.heap[b]? = some (.cells cells ty (0, 0))) : ∀ (o sz : Nat) (rows : List (List T)) (fps : List Nat), zag w cells o sz rows fps -> (∀ b ∈ fps, A b) -> zak w A b o sz rows
 | _, _, [], _, _, _ => by unfold zak; trivial
 | o, sz, r :: rest, fps, h, ha => by
  unfold zag at h
  unfold zak
  obtain ⟨h1, f1, f2, rfl, h2, h3⟩ := h
  exact ⟨h1, za4.rep b cells ty hc o r f1 h2 fun b hb => ha b (by simp [hb]), zag.rep b cells ty hc (o + sz) sz rest f2 h3 fun b hb => ha b (by simp [hb])⟩
theorem za4.rep {w : World} {A : Nat -> Prop} (b : Nat) (cells : Array Value) (ty : TypeId) (hc : w.heap[b]? = some (.cells cells ty (0, 0))) : ∀ (o : Nat) (cs : List T) (fps : List Nat), za4 w cells o cs fps -> (∀ b ∈ fps, A b) -> zaz w A b o cs
 | _, [], _, _, _ => by unfold zaz; trivial
 | o, c :: cs, fps, h, ha => by
  unfold za4 at h
  unfold zaz
  obtain ⟨v, f1, f2, h1, rfl, h2, h3⟩ := h
  exact ⟨⟨v, by simp [World.cell?, hc, h1], zao.rep c v f1 h2 fun b hb => ha b (by simp [hb])⟩, za4.rep b cells ty hc (o + 1) cs f2 h3 fun b hb => ha b (by simp [hb])⟩
end
end Go.Proofs.YtaaniggpnljckaaGreat
namespace Go.Proofs.YtaaniggpnljckaaGreat
set_option linter.unusedSimpArgs false
set_option linter.unusedVariables false
set_option linter.unusedSectionVars false
set_option maxRecDepth 4000
open Go.RowKit
inductive C where
 | t (x : T)
 | nl (s : Nat)
 | ow (e g : Nat)
 | bx (b o : Nat)
 | el (cs : List T) (o : Nat)
 | eo (e g sz i o : Nat)
 | fn (f : FuncId) (caps : List Nat)
 | cv (v : Value)
 | any
 | rn (x : T)
 | er (cs : List T) (o : Nat)
 | vw (e g sz o : Nat)
inductive V where
 | one (c : C)
 | agg (cs : List C)
 | tup (xs : List (Bool × List C))
structure Ev where
 deep : Bool
 sz : Nat
 rows : List (List T)
 gen : Nat
 on : Bool
structure St where
 sl : Nat -> V
 bx : Nat -> Option (List C)
 ev : Nat -> Option Ev
def St.has (σ : St) (e n : Nat) : Prop := ∃ x, σ.ev e = some x /\ n <= x.gen
def St.On (σ : St) (e : Nat) : Prop := ∃ x, σ.ev e = some x /\ x.on = true
structure RP where
 p : Nat -> Prop
 ξ : Nat -> Value
 lo : ∀ i, i < 1000000 -> ξ i = undef
 nb : ∀ i b, ξ i ≠ .bool b
instance : CoeFun RP (fun _ => Nat -> Prop) := ⟨RP.p⟩
def RP.of (p : Nat -> Prop) : RP := ⟨p, fun _ => undef, fun _ _ => rfl, fun _ _ h => by cases h⟩
structure Gh where
 β : Nat -> Nat
 ψ : Nat -> Nat -> Value
 φ : Nat -> List Nat
 A0 : Nat -> Prop
 R0 : RP
def Fix (σ : St) (g : Gh) (w : World) (b : Nat) : Prop :=
 (∀ k, σ.bx k ≠ none -> g.β k ≠ b) /\ (∀ e x, σ.ev e = some x -> x.on = true -> (g.φ e).head? ≠ some b) /\ b < w.heap.size /\ g.A0 b
def zbr (σ : St) (g : Gh) (w : World) (b : Nat) : Prop := Fix σ g w b /\ ∀ e, σ.On e -> b ∉ g.φ e
def CR (σ : St) (g : Gh) (w : World) : C -> Value -> Prop
 | .t x, v => zai w (Fix σ g w) x v
 | .nl _, v => v = .slice none 0 0
 | .ow e n, v => v = g.ψ e n /\ σ.has e n
 | .bx b o, v => v = .pointer (some ⟨g.β b, o, none⟩) /\ σ.bx b ≠ none
 | .el cs o, v => ∃ b q, v = .pointer (some ⟨b, q + o, none⟩) /\ Fix σ g w b /\ zaz w (Fix σ g w) b q cs
 | .eo e s sz i o, v => ∃ b n c, g.ψ e s = .slice (some ⟨b, 0, none⟩) n c /\ v = .pointer (some ⟨b, i * sz + o, none⟩) /\ i < n /\ σ.has e s
 | .fn f caps, v => v = .func (.func f) #[] ⟨caps.map fun b => .pointer (some ⟨g.β b, 0, none⟩)⟩ /\ ∀ b ∈ caps, σ.bx b ≠ none
 | .cv u, v => v = u
 | .any, _ => True
 | .rn x, v => zai w (zbr σ g w) x v
 | .er cs o, v => ∃ b q, v = .pointer (some ⟨b, q + o, none⟩) /\ zbr σ g w b /\ zaz w (zbr σ g w) b q cs
 | .vw e s sz o, v => ∃ b n c, g.ψ e s = .slice (some ⟨b, 0, none⟩) n c /\ v = .slice (some ⟨b, o * sz, none⟩) (n - o) (c - o) /\ o < n /\ σ.has e s
def CRs (σ : St) (g : Gh) (w : World) : List C -> List Value -> Prop
 | [], vs => vs = []
 | c :: cs, vs => ∃ v vs', vs = v :: vs' /\ CR σ g w c v /\ CRs σ g w cs vs'
def CRx (σ : St) (g : Gh) (w : World) (x : Bool × List C) (u : Value) : Prop :=
 if x.1 = true then ∃ a, u = .agg ⟨a⟩ /\ CRs σ g w x.2 a else ∃ c, x.2 = [c] /\ CR σ g w c u
def CRt (σ : St) (g : Gh) (w : World) : List (Bool × List C) -> List Value -> Prop
 | [], vs => vs = []
 | x :: xs, vs => ∃ v vs', vs = v :: vs' /\ CRx σ g w x v /\ CRt σ g w xs vs'
def VR (σ : St) (g : Gh) (w : World) : V -> Value -> Prop
 | .one c, v => CR σ g w c v
 | .agg cs, v => ∃ a, v = .agg ⟨a⟩ /\ CRs σ g w cs a
 | .tup xs, v => ∃ vs, v = .tuple ⟨vs⟩ /\ CRt σ g w xs vs
def Hd0 (v : Value) : Prop := ∀ b o s n c, v = .slice (some ⟨b, o, s⟩) n c -> o = 0 /\ s = none
def EvR (w : World) (A : Nat -> Prop) (x : Ev) (v : Value) (fp : List Nat) : Prop :=
 ∃ ao cap, v = .slice ao x.rows.length cap /\ x.rows.length <= cap /\ cap <= zds /\ ((ao = none /\ cap = 0 /\ x.rows = [] /\ fp = []) ∨
  ∃ b cells ty fps, ao = some ⟨b, 0, none⟩ /\ fp = b :: fps /\ w.heap[b]? = some (.cells cells ty (0, 0)) /\ cells.size = cap * x.sz ∧
   if x.deep = true then zag w cells 0 x.sz x.rows fps else (fps = [] /\ zak w A b 0 x.sz x.rows))
def LtK (n0 : Nat -> Prop) (w : World) : Prop := ∀ k, n0 k -> k < w.heap.size
structure Bk (n0 : Nat -> Prop) (w w' : World) : Prop where
 os : w'.os = w.os
 tape : w'.tape = w.tape
 output : w'.output = w.output
 size : w.heap.size <= w'.heap.size
 block : ∀ k, n0 k -> w'.heap[k]? = w.heap[k]?
theorem Bk.refl (n0 : Nat -> Prop) (w : World) : Bk n0 w w := ⟨rfl, rfl, rfl, Nat.le_refl _, fun _ _ => rfl⟩
theorem Bk.trans {n0 : Nat -> Prop} {a b c : World} (h : Bk n0 a b) (k : Bk n0 b c) : Bk n0 a c :=
 ⟨k.os.trans h.os, k.tape.trans h.tape, k.output.trans h.output, Nat.le_trans h.size k.size, fun i hi => (k.block i hi).trans (h.block i hi)⟩
theorem Bk.of_below {n0 : Nat -> Prop} {w w' : World} (h : Below w.heap.size w w') (hn : LtK n0 w) : Bk n0 w w' := ⟨h.os, h.tape, h.output, h.size, fun k hk => h.block k (hn k hk)⟩
theorem LtK.mono {n0 : Nat -> Prop} {w w' : World} (h : LtK n0 w) (hb : w.heap.size <= w'.heap.size) : LtK n0 w' := fun k hk => Nat.lt_of_lt_of_le (h k hk) hb
theorem LtK.new {n0 : Nat -> Prop} {w : World} (h : LtK n0 w) {b : Nat} (hb : w.heap.size <= b) : ¬ n0 b := fun hk => by have := h b hk; omega
structure Rel (n0 : Nat -> Prop) (N : Nat) (σ : St) (g : Gh) (a : Act) (w : World) : Prop where
 defers : a.defers = []
 size : a.tmps.size = N
 anew : ∀ b, ¬ n0 b -> g.A0 b /\ g.R0 b
 slots : ∀ i, VR σ g w (σ.sl i) (a.tmps.getD i (g.R0.ξ i))
 boxes : ∀ b cs, σ.bx b = some cs -> ∃ vs ty, w.heap[g.β b]? = some (.cells vs ty (0, 0)) /\ CRs σ g w cs vs.toList
 base : ∀ b, σ.bx b ≠ none -> ¬ n0 (g.β b)
 inj : ∀ b b', σ.bx b ≠ none -> σ.bx b' ≠ none -> g.β b = g.β b' -> b = b'
 evs : ∀ e x, σ.ev e = some x -> x.on = true -> EvR w (Fix σ g w) x (g.ψ e x.gen) (g.φ e)
 offs : ∀ e x, σ.ev e = some x -> x.on = false -> zai w (Fix σ g w) (.sl x.sz x.rows) (g.ψ e x.gen) /\ Hd0 (g.ψ e x.gen)
 slc : ∀ e n, ∃ ao l c, g.ψ e n = .slice ao l c
 ebase : ∀ e, σ.On e -> ∀ b ∈ g.φ e, g.A0 b /\ g.R0 b
 etop : ∀ e, σ.On e -> ∀ b ∈ g.φ e, ¬ n0 b
 nodup : ∀ e, σ.On e -> (g.φ e).Nodup
 apart : ∀ e e', σ.On e -> σ.On e' -> e ≠ e' -> ∀ b ∈ g.φ e, b ∉ g.φ e'
 ebx : ∀ e k, σ.On e -> σ.bx k ≠ none -> g.β k ∉ g.φ e
def upd {α : Type} (f : Nat -> α) (i : Nat) (x : α) : Nat -> α := fun j => if j = i then x else f j
theorem zac {α : Type} (f : Nat -> α) (i : Nat) (x : α) : upd f i x i = x := by simp [upd]
theorem zah {α : Type} (f : Nat -> α) {i j : Nat} (x : α) (h : j ≠ i) : upd f i x j = f j := by simp [upd, h]
end Go.Proofs.YtaaniggpnljckaaGreat
namespace Go.Proofs.YtaaniggpnljckaaGreat
set_option linter.unusedSimpArgs false
set_option linter.unusedVariables false
set_option linter.unusedSectionVars false
set_option maxRecDepth 4000
open Go.RowKit
def znj (P : Program) (t : TypeId) : Option Bool := (P.underlying t).map fun d => match d with | .struct _ => true | .array _ _ => true | _ => false
def zbc (P : Program) (t : TypeId) : Option Nat := (P.info? t).map (·.size)
def zcu (P : Program) (t : TypeId) : Option Nat := (P.info? t).map (·.bytes)
def elT (P : Program) (t : TypeId) : Option TypeId := match P.underlying t with | some (.slice e) => some e | _ => none
def zzo (P : Program) (t : TypeId) : Bool := match P.underlying t with | some .string => true | _ => false
def zu6 (P : Program) (t : TypeId) : Bool := match P.underlying t with | some .bool => true | _ => false
def qbm (P : Program) (t : TypeId) : Option IntKind := match P.underlying t with | some (.int k) => some k | _ => none
def nlT (P : Program) (t : TypeId) : Nat := ((elT P t).bind (zbc P)).getD 0
def zj8 (P : Program) (t : TypeId) (f : Nat) : Option (Nat × TypeId) := match P.underlying t with | some (.struct fs) => (fs[f]?).map fun x => (x.offset, x.type) | _ => none
def nlsT (P : Program) : Nat -> TypeId -> List Nat
 | 0, _ => []
 | d + 1, t => match P.underlying t with
  | some (.struct fs) => fs.toList.flatMap fun f => nlsT P d f.type
  | _ => [nlT P t]
def zie (s : Nat) : Value -> C
 | .int k n => if k.min <= n /\ n <= k.max then .t (.int k n) else .cv (.int k n)
 | .bool b => .t (.bool b)
 | .string x => if x.size <= zds then .t (.str x.data.toList) else .cv (.string x)
 | .slice none 0 0 => .nl s
 | v => .cv v
def zcs (P : Program) (t : TypeId) : Option (List C) := ((P.info? t).bind (·.zero)).map fun z => z.cells.toList.zipIdx.map fun (v, i) => zie ((nlsT P 6 t).getD i 0) v
def ofV (P : Program) (t : TypeId) : Value -> V
 | .agg cs => .agg (cs.toList.zipIdx.map fun (v, i) => zie ((nlsT P 6 t).getD i 0) v)
 | v => .one (zie (nlT P t) v)
def St.get (P : Program) (σ : St) (t : TypeId) : Operand -> V
 | .tmp i => if i < 1000000 then σ.sl i else .one .any
 | .const v => ofV P t v
 | .global _ => .one .any
 | .func f => .one (.fn f [])
def St.put (σ : St) (d : Option Nat) (v : V) : St := match d with | some i => { σ with sl := upd σ.sl i v } | none => σ
def V.cells : V -> List C
 | .one c => [c]
 | .agg cs => cs
 | .tup _ => []
def ldC (P : Program) (t : TypeId) (cs : List C) (o : Nat) : Option V :=
 match znj P t with
 | some true => (zbc P t).bind fun n => if o + n <= cs.length then some (.agg ((cs.drop o).take n)) else none
 | some false => (cs[o]?).map .one
 | none => none
def T.toN (x : T) : C := match x with
 | .int k n => .t (.int k n)
 | .bool b => .t (.bool b)
 | .str s => .t (.str s)
 | .vs a l c => .t (.vs a l c)
 | x => .rn x
def St.at (σ : St) : V -> Option (List C × Nat)
 | .one (.bx b o) => (σ.bx b).map fun cs => (cs, o)
 | .one (.el cs o) => some (cs.map .t, o)
 | .one (.er cs o) => some (cs.map T.toN, o)
 | .one (.t (.ptr cs)) => some (cs.map .t, 0)
 | .one (.eo e g sz i o) => (σ.ev e).bind fun x => if x.gen = g /\ x.sz = sz then some ((x.rows.getD i []).map .t, o) else none
 | _ => none
def T.flat : T -> Bool
 | .int _ _ => true
 | .bool _ => true
 | .str _ => true
 | .vs _ _ _ => true
 | _ => false
def qcb : Value -> Bool
 | .pointer none => true
 | .map none => true
 | .nilFunc => true
 | .nilIface => true
 | _ => false
def C.good : C -> Bool
 | .any => false
 | .cv v => qcb v
 | _ => true
def binI (op : BinOp) (k : IntKind) (a b : Int) : Option (Prop × C) :=
 match op with
 | .add => some (True, .t (.int k (k.wrap (a + b))))
 | .sub => some (True, .t (.int k (k.wrap (a - b))))
 | .mul => some (True, .t (.int k (k.wrap (a * b))))
 | .quo => some (b ≠ 0, .t (.int k (k.wrap (a.tdiv b))))
 | .rem => some (b ≠ 0 /\ k.min <= a.tmod b /\ a.tmod b <= k.max, .t (.int k (a.tmod b)))
 | .and => some (True, .t (.int k (k.wrap (BitVec.ofInt k.bits a &&& BitVec.ofInt k.bits b).toNat)))
 | .or => some (True, .t (.int k (k.wrap (BitVec.ofInt k.bits a ||| BitVec.ofInt k.bits b).toNat)))
 | .xor => some (True, .t (.int k (k.wrap (BitVec.ofInt k.bits a ^^^ BitVec.ofInt k.bits b).toNat)))
 | .eql => some (True, .t (.bool (a == b)))
 | .neq => some (True, .t (.bool (a != b)))
 | .lss => some (True, .t (.bool (decide (a < b))))
 | .leq => some (True, .t (.bool (decide (a <= b))))
 | .gtr => some (True, .t (.bool (decide (a > b))))
 | .geq => some (True, .t (.bool (decide (a >= b))))
 | _ => none
def binS (op : BinOp) (a b : List UInt8) : Option (Prop × C) :=
 match op with
 | .add => some (a.length + b.length <= zds, .t (.str (a ++ b)))
 | .eql => some (True, .t (.bool (a == b)))
 | .neq => some (True, .t (.bool (!(a == b))))
 | .lss => some (True, .t (.bool (Op.bytesLess a b)))
 | .gtr => some (True, .t (.bool (!(Op.bytesLess a b || a == b))))
 | .leq => some (True, .t (.bool (Op.bytesLess a b || a == b)))
 | .geq => some (True, .t (.bool (!(Op.bytesLess a b))))
 | _ => none
def bin (P : Program) (op : BinOp) (t : TypeId) : V -> V -> Option (Prop × C)
 | .one (.t (.int k a)), .one (.t (.int k' b)) => match op with
  | .shl => some (0 <= b, .t (.int k (k.wrap (a * 2 ^ min b.toNat k.bits))))
  | .shr => some (0 <= b /\ k.min <= a.fdiv (2 ^ min b.toNat k.bits) /\ a.fdiv (2 ^ min b.toNat k.bits) <= k.max, .t (.int k (a.fdiv (2 ^ min b.toNat k.bits))))
  | op => if k = k' then binI op k a b else none
 | .one (.t (.str a)), .one (.t (.str b)) => binS op a b
 | .one (.t (.bool a)), .one (.t (.bool b)) => match op with
  | .eql => if zu6 P t = true then some (True, .t (.bool (a == b))) else none
  | .neq => if zu6 P t = true then some (True, .t (.bool (!(a == b)))) else none
  | _ => none
 | _, _ => none
def un (op : UnOp) : V -> Option C
 | .one (.t (.bool a)) => match op with | .not => some (.t (.bool (!a))) | _ => none
 | .one (.t (.int k a)) => match op with | .neg => some (.t (.int k (k.wrap (0 - a)))) | _ => none
 | _ => none
def CT0 (σ : St) : C -> T -> Prop
 | .t x, y => x = y
 | .rn x, y => x = y
 | .nl _, .sl _ rows => rows = []
 | .ow e g, .sl sz rows => ∃ d o, σ.ev e = some ⟨d, sz, rows, g, o⟩
 | .el cs o, .ptr cs' => o = 0 /\ cs = cs'
 | .er cs o, .ptr cs' => o = 0 /\ cs = cs'
 | _, _ => False
def zlt (σ : St) : List C -> List T -> Prop
 | [], ts => ts = []
 | c :: cs, ts => ∃ t ts', ts = t :: ts' /\ CT0 σ c t /\ zlt σ cs ts'
def CTb (σ : St) (b : Nat) (t : T) : Prop := ∃ cs ts, σ.bx b = some cs /\ t = .ptr ts /\ zlt σ cs ts
def CTf (σ : St) : List Nat -> List T -> Prop
 | [], ts => ts = []
 | b :: bs, ts => ∃ t ts', ts = t :: ts' /\ CTb σ b t /\ CTf σ bs ts'
def CT (σ : St) : C -> T -> Prop
 | .bx b 0, t => CTb σ b t
 | .fn f caps, .fn g ts => f = g /\ CTf σ caps ts
 | c, t => CT0 σ c t
def CTs (σ : St) : List C -> List T -> Prop
 | [], ts => ts = []
 | c :: cs, ts => ∃ t ts', ts = t :: ts' /\ CT σ c t /\ CTs σ cs ts'
inductive D where
 | one (t : T)
 | agg (ts : List T)
def zto (w : World) (A : Nat -> Prop) : D -> Value -> Prop
 | .one t, v => zai w A t v
 | .agg ts, v => ∃ a, v = .agg ⟨a⟩ /\ zad w A ts a
def zba (w : World) (A : Nat -> Prop) : List D -> List Value -> Prop
 | [], vs => vs = []
 | d :: ds, vs => ∃ v vs', vs = v :: vs' /\ zto w A d v /\ zba w A ds vs'
def OwnD (w : World) : D -> Value -> List Nat -> Prop
 | .one t, v, fp => zao w t v fp
 | .agg ts, v, fp => ∃ a, v = .agg ⟨a⟩ /\ zav w ts a fp
def zga (w : World) : List D -> List Value -> List Nat -> Prop
 | [], vs, fp => vs = [] /\ fp = []
 | d :: ds, vs, fp => ∃ v vs' f1 f2, vs = v :: vs' /\ fp = f1 ++ f2 /\ OwnD w d v f1 /\ zga w ds vs' f2
def VD (σ : St) : V -> D -> Prop
 | .one c, .one t => CT σ c t
 | .agg cs, .agg ts => CTs σ cs ts
 | _, _ => False
def VDs (σ : St) : List V -> List D -> Prop
 | [], ds => ds = []
 | v :: vs, ds => ∃ d ds', ds = d :: ds' /\ VD σ v d /\ VDs σ vs ds'
def zbk (vs : List Value) : Value := match vs with | [v] => v | _ => .tuple ⟨vs⟩
def za8 (P : Program) (f : FuncId) : Prop := ∀ (args : Array Value) (w : World), (callFunc f args).run P w = .ok (.enter f args) w
def T.isPin : T -> Bool
 | .pin _ _ => true
 | _ => false
def zg7 (t : T) (fp : List Nat) : List Nat := match t with | .sl _ _ => fp.head?.toList | _ => []
def ztm (w : World) : List T -> List Value -> List Nat -> List Nat -> Prop
 | [], vs, fp, tp => vs = [] /\ fp = [] /\ tp = []
 | t :: ts, vs, fp, tp => ∃ v vs' f1 f2 t2, vs = v :: vs' /\ fp = f1 ++ f2 /\ tp = zg7 t f1 ++ t2 /\ zao w t v f1 /\ ztm w ts vs' f2 t2
def GD (w : World) : D -> Value -> List Nat -> List Nat -> Prop
 | .one t, v, fp, tp => zao w t v fp /\ tp = zg7 t fp
 | .agg ts, v, fp, tp => ∃ a, v = .agg ⟨a⟩ /\ ztm w ts a fp tp
def GDs (w : World) : List D -> List Value -> List Nat -> List Nat -> Prop
 | [], vs, fp, tp => vs = [] /\ fp = [] /\ tp = []
 | d :: ds, vs, fp, tp => ∃ v vs' f1 f2 t1 t2, vs = v :: vs' /\ fp = f1 ++ f2 /\ tp = t1 ++ t2 /\ GD w d v f1 t1 /\ GDs w ds vs' f2 t2
def zas (w : World) (A : Nat -> Prop) : List (Bool × D) -> List Value -> List Nat -> List Nat -> Prop
 | [], vs, fp, tp => vs = [] /\ fp = [] /\ tp = []
 | (true, d) :: ds, vs, fp, tp => ∃ v vs' f1 f2 t1 t2, vs = v :: vs' /\ fp = f1 ++ f2 /\ tp = t1 ++ t2 /\ GD w d v f1 t1 /\ zas w A ds vs' f2 t2
 | (false, d) :: ds, vs, fp, tp => ∃ v vs', vs = v :: vs' /\ zto w A d v /\ zas w A ds vs' fp tp
def GC (P : Program) (f : FuncId) (args : List (Bool × D)) (res : List D) : Prop := za8 P f /\ ∀ (w : World) (vs : List Value) (fp tp : List Nat), zas w (fun b => b < w.heap.size /\ b ∉ fp) args vs fp tp -> fp.Nodup →
 Calls P f ⟨vs⟩ w fun e w' => ∃ us fp' tp', e = .returned (zbk us) /\ GDs w' res us fp' tp' /\ fp'.Nodup /\ (∀ b ∈ fp', b ∈ fp \/ w.heap.size <= b) /\ Bk (fun k => k < w.heap.size /\ k ∉ fp) w w'
def rd (args : List D) : List (Bool × D) := args.map fun d => (false, d)
theorem za2 {args : List D} {n : Nat} (h : Nat.ble args.length n = true) : (rd args).length <= n := by
 unfold rd
 rw [List.length_map]
 exact Nat.le_of_ble_eq_true h
def FC (P : Program) (f : FuncId) (args res : List D) : Prop := GC P f (rd args) res
def RC (P : Program) (f : FuncId) (args res : List D) : Prop := za8 P f /\ ∀ (w : World) (vs : List Value) (A : Nat -> Prop), zba w (fun b => b < w.heap.size /\ A b) args vs →
 Calls P f ⟨vs⟩ w fun e w' => ∃ us, e = .returned (zbk us) /\ zba w' (fun b => b < w'.heap.size /\ (A b \/ w.heap.size <= b)) res us /\ Below w.heap.size w w'
def zae (P : Program) (o : Oper) (σ σ' : St) : Prop :=
 ∀ n0 N g a w, Rel n0 N σ g a w -> LtK n0 w -> (∀ d, o.dst = some d -> d < N) →
  o.wp P a w (fun a' w' => ∃ g', Rel n0 N σ' g' a' w' /\ Bk n0 w w' /\ g'.A0 = g.A0 /\ g'.R0 = g.R0) (fun _ _ _ => False)
def za9 (P : Program) (o : Oper) (σ : St) (K : St -> Prop) : Prop :=
 ∀ n0 N g a w, Rel n0 N σ g a w -> LtK n0 w -> (∀ d, o.dst = some d -> d < N) →
  o.wp P a w (fun a' w' => ∃ σ' g', K σ' /\ Rel n0 N σ' g' a' w' /\ Bk n0 w w' /\ g'.A0 = g.A0 /\ g'.R0 = g.R0) (fun _ _ _ => False)
abbrev qd8 := Option (Prop × St)
def St.out (σ : St) (d : Option Nat) (v : Option V) : qd8 := v.map fun v => (True, σ.put d v)
def St.outP (σ : St) (d : Option Nat) (v : Option (Prop × C)) : qd8 := v.map fun v => (v.1, σ.put d (.one v.2))
def setR {α : Type} (cs : List α) (o : Nat) (vs : List α) : List α := cs.take o ++ vs ++ cs.drop (o + vs.length)
def qci (P : Program) (t : TypeId) : Option (List (Nat × Nat)) := match P.underlying t with | some (.struct fs) => fs.toList.mapM (fun f => (P.info? f.type).map fun i => (f.offset, i.size)) | _ => none
def V.isTup : V -> Bool
 | .tup _ => true
 | _ => false
def ftyT (P : Program) (t : TypeId) (i : Nat) : TypeId := ((zj8 P t i).map (·.2)).getD 0
def zdk (P : Program) (t : TypeId) (pls : List (Nat × Nat)) (get : TypeId -> Operand -> V) : List (Nat × Operand) -> List C -> Option (List C)
 | [], cs => some cs
 | (i, x) :: rest, cs => match pls[i]? with
  | some (q, n) =>
   if (get (ftyT P t i) x).cells.length = n /\ q + n <= cs.length /\ (get (ftyT P t i) x).cells.all C.good = true /\ (get (ftyT P t i) x).isTup = false then
    zdk P t pls get rest (setR cs q (get (ftyT P t i) x).cells) else none
  | none => none
def zdy (get : Operand -> V) : List Operand -> Option (List Nat)
 | [] => some []
 | x :: l => match get x with | .one (.bx b 0) => (zdy get l).map (b :: ·) | _ => none
def zzt (c : Bool) : T -> T -> T
 | .bool x, .bool y => .bool (if c = true then x else y)
 | .int k x, .int k' y => if k = k' then .int k (if c = true then x else y) else if c = true then .int k x else .int k' y
 | .str x, .str y => .str (if c = true then x else y)
 | x, y => if c = true then x else y
def zwg (c : Bool) : V -> V -> V
 | .one (.t x), .one (.t y) => .one (.t (zzt c x y))
 | a, b => match c with | true => a | false => b
def zgv : List (List T) -> Option (List UInt8)
 | [] => some []
 | [.int .u8 n] :: rs => (zgv rs).map (UInt8.ofNat n.toNat :: ·)
 | _ => none
def u8S (P : Program) (t : TypeId) : Bool := match P.underlying t with
 | some (.slice e) => match P.underlying e with | some (.int .u8) => true | _ => false
 | _ => false
def zoi (P : Program) (σ : St) (s d : TypeId) (v : V) : Option V := if u8S P s = true /\ zzo P d = true then match v with
 | .one (.t (.sl sz rows)) => if sz = 1 then (zgv rows).map fun b => .one (.t (.str b)) else none
 | .one (.ow e g) => (σ.ev e).bind fun y => if y.gen = g /\ y.sz = 1 then (zgv y.rows).map fun b => .one (.t (.str b)) else none
 | _ => none else none
def st0 (P : Program) (o : Oper) (σ : St) : qd8 :=
 match o.op with
 | .move x => σ.out o.dst (some (σ.get P o.type x))
 | .assign x => σ.out o.dst (some (σ.get P o.type x))
 | .pick c x y => match σ.get P 0 c with
  | .one (.t (.bool c)) => σ.out o.dst (some (zwg c (σ.get P o.type x) (σ.get P o.type y)))
  | _ => none
 | .load t x => σ.out o.dst ((σ.at (σ.get P 0 x)).bind fun (cs, q) => ldC P t cs q)
 | .binOp op t x y _ => σ.outP o.dst (bin P op t (σ.get P t x) (σ.get P t y))
 | .unOp op _ x => σ.out o.dst ((un op (σ.get P o.type x)).map .one)
 | .extract x i => match σ.get P 0 x with
  | .tup xs => σ.out o.dst ((xs[i]?).bind fun (a, cs) => if a = true then some (.agg cs) else match cs with | [c] => some (.one c) | _ => none)
  | _ => none
 | .fieldAddr t x f => (zj8 P t f).bind fun (q, ft) => (zbc P ft).bind fun n => if n = 0 then none else match σ.get P 0 x with
  | .one (.bx b p) => σ.out o.dst (some (.one (.bx b (p + q))))
  | .one (.el cs p) => σ.out o.dst (some (.one (.el cs (p + q))))
  | .one (.er cs p) => σ.out o.dst (some (.one (.er cs (p + q))))
  | .one (.eo e g z i p) => σ.out o.dst (some (.one (.eo e g z i (p + q))))
  | .one (.t (.ptr cs)) => σ.out o.dst (some (.one (.el cs q)))
  | _ => none
 | .field t x f => (zj8 P t f).bind fun (q, ft) => match σ.get P t x with
  | .agg cs => σ.out o.dst (ldC P ft cs q)
  | _ => none
 | .indexAddr t x i => ((elT P t).bind (zbc P)).bind fun n => match σ.get P t x, σ.get P 0 i with
  | .one (.t (.sl sz rows)), .one (.t (.int _ k)) => some (sz = n /\ 0 <= k /\ k < rows.length, σ.put o.dst (.one (.el (rows.getD k.toNat []) 0)))
  | .one (.rn (.sl sz rows)), .one (.t (.int _ k)) => some (sz = n /\ 0 <= k /\ k < rows.length, σ.put o.dst (.one (.er (rows.getD k.toNat []) 0)))
  | .one (.ow e g), .one (.t (.int _ k)) => (σ.ev e).bind fun x => if x.gen = g then some (x.sz = n /\ 0 <= k /\ k < x.rows.length, σ.put o.dst (.one (.eo e g n k.toNat 0))) else none
  | .one (.vw e g z q), .one (.t (.int _ k)) => (σ.ev e).bind fun x => if x.gen = g then some (x.sz = n /\ z = n /\ 0 <= k /\ k + q < x.rows.length, σ.put o.dst (.one (.eo e g n (k.toNat + q) 0))) else none
  | _, _ => none
 | .index t x i => match σ.get P t x, σ.get P 0 i with
  | .one (.t (.str s)), .one (.t (.int _ k)) => if zzo P t = true then some (0 <= k /\ k < s.length, σ.put o.dst (.one (.t (.int .u8 (s.getD k.toNat 0).toNat)))) else none
  | _, _ => none
 | .nilCheck x => match σ.get P 0 x with
  | .one (.bx b p) => σ.out o.dst (some (.one (.bx b p)))
  | .one (.el cs p) => σ.out o.dst (some (.one (.el cs p)))
  | .one (.er cs p) => σ.out o.dst (some (.one (.er cs p)))
  | .one (.eo e g z i p) => σ.out o.dst (some (.one (.eo e g z i p)))
  | .one (.t (.ptr cs)) => σ.out o.dst (some (.one (.t (.ptr cs))))
  | .one (.fn f caps) => σ.out o.dst (some (.one (.fn f caps)))
  | _ => none
 | .convert s d x => match qbm P s, qbm P d, σ.get P s x with
  | some _, some k, .one (.t (.int _ n)) => σ.out o.dst (some (.one (.t (.int k (k.wrap n)))))
  | _, _, _ => σ.out o.dst (zoi P σ s d (σ.get P s x))
 | .call { callee := .builtin .len, args, argTypes } => match args.toList, argTypes.toList with
  | [x], [t] => match σ.get P t x with
   | .one (.t (.sl _ rows)) => if (elT P t).isSome = true then σ.out o.dst (some (.one (.t (.int .i64 rows.length)))) else none
   | .one (.rn (.sl _ rows)) => if (elT P t).isSome = true then σ.out o.dst (some (.one (.t (.int .i64 rows.length)))) else none
   | .one (.t (.str s)) => if zzo P t = true then σ.out o.dst (some (.one (.t (.int .i64 s.length)))) else none
   | .one (.nl _) => if (elT P t).isSome = true then σ.out o.dst (some (.one (.t (.int .i64 0)))) else none
   | .one (.ow e g) => if (elT P t).isSome = true then (σ.ev e).bind fun x => if x.gen = g then σ.out o.dst (some (.one (.t (.int .i64 x.rows.length)))) else none else none
   | .one (.vw e g _ q) => if (elT P t).isSome = true then (σ.ev e).bind fun x => if x.gen = g then σ.out o.dst (some (.one (.t (.int .i64 ((x.rows.length - q : Nat) : Int))))) else none else none
   | _ => none
  | _, _ => none
 | .alloc t => match o.dst with
  | some d => if (σ.bx d).isNone = true then (zcs P t).bind fun z => some (True, { σ with sl := upd σ.sl d (.one (.bx d 0)), bx := upd σ.bx d (some z) }) else none
  | none => none
 | .box t x => match o.dst with
  | some d => if (σ.bx d).isNone = true /\ (σ.get P t x).isTup = false /\ (σ.get P t x).cells.all C.good = true then
   some (True, { σ with sl := upd σ.sl d (.one (.bx d 0)), bx := upd σ.bx d (some (σ.get P t x).cells) }) else none
  | none => none
 | .store t a x => match σ.get P 0 a, zbc P t with
  | .one (.bx b p), some n => (σ.bx b).bind fun cs =>
   if (σ.get P t x).cells.length = n /\ p + n <= cs.length /\ (σ.get P t x).cells.all C.good = true /\ (σ.get P t x).isTup = false then some (True, St.put { σ with bx := upd σ.bx b (some (setR cs p (σ.get P t x).cells)) } o.dst (.one .any)) else none
  | _, _ => none
 | .build t parts => (qci P t).bind fun pls => σ.out o.dst ((zcs P t).bind fun z => (zdk P t pls (σ.get P) parts.toList z).map .agg)
 | .makeFunc (.func f) first captured => if first.size = 0 then (zdy (σ.get P 0) captured.toList).bind fun bs => σ.out o.dst (some (.one (.fn f bs))) else none
 | _ => none
def zjz : Op -> Bool
 | .call { callee := .builtin .max, .. } => true
 | .call { callee := .builtin .min, .. } => true
 | .slice _ _ _ _ none => true
 | _ => false
def ziv (get : TypeId -> Operand -> V) (d : Int) : Option Operand -> Option Int
 | none => some d
 | some x => match get 0 x with
  | .one (.t (.int _ k)) => some k
  | _ => none
def zvk (f : Int -> Int -> Int) : V -> V -> Option (Prop × V)
 | .one (.t (.int k a)), .one (.t (.int k' b)) => if k = k' then some (True, .one (.t (.int k (f a b)))) else none
 | _, _ => none
def zp1 (P : Program) (get : TypeId -> Operand -> V) (t : TypeId) (low high : Option Operand) : V -> Option (Prop × V)
 | .one (.t (.str s)) => if zzo P t = true then (ziv get 0 low).bind fun l => (ziv get s.length high).bind fun h => some (0 <= l /\ l <= h /\ h <= s.length, .one (.t (.str ((s.take h.toNat).drop l.toNat)))) else none
 | .one (.t (.sl sz rows)) => ((elT P t).bind (zbc P)).bind fun n => (ziv get 0 low).bind fun l => (ziv get rows.length high).bind fun h => some (sz = n /\ 0 <= l /\ l <= h /\ h <= rows.length, .one (.t (.sl sz ((rows.take h.toNat).drop l.toNat))))
 | .one (.rn (.sl sz rows)) => ((elT P t).bind (zbc P)).bind fun n => (ziv get 0 low).bind fun l => (ziv get rows.length high).bind fun h => some (sz = n /\ 0 <= l /\ l <= h /\ h <= rows.length, .one (.rn (.sl sz ((rows.take h.toNat).drop l.toNat))))
 | .one (.nl s) => ((elT P t).bind (zbc P)).bind fun _ => (ziv get 0 low).bind fun l => (ziv get 0 high).bind fun h => some (0 <= l /\ l <= h /\ h <= 0, .one (.nl s))
 | _ => none
def vop (P : Program) (get : TypeId -> Operand -> V) : Op -> Option (Prop × V)
 | .call { callee := .builtin .max, args, .. } => match args.toList with
  | [x, y] => zvk max (get 0 x) (get 0 y)
  | _ => none
 | .call { callee := .builtin .min, args, .. } => match args.toList with
  | [x, y] => zvk min (get 0 x) (get 0 y)
  | _ => none
 | .slice t x low high none => zp1 P get t low high (get t x)
 | _ => none
def St.outV (σ : St) (d : Option Nat) (v : Option (Prop × V)) : qd8 := v.map fun v => (v.1, σ.put d v.2)
def st (P : Program) (o : Oper) (σ : St) : qd8 := if zjz o.op = true then σ.outV o.dst (vop P (σ.get P) o.op) else st0 P o σ
def St.gets (P : Program) (σ : St) (xs : Array Operand) (ts : Array TypeId) : List V := (xs.toList.zip (ts.toList ++ List.replicate xs.size 0)).map fun (x, t) => σ.get P t x
def za1 : List D -> List T
 | [] => []
 | .one t :: ds => t :: za1 ds
 | .agg ts :: ds => ts ++ za1 ds
def owC (d j : Nat) : T -> C
 | .sl _ _ => .ow (d * 32 + j) 0
 | t => .t t
def zla (d : Nat) : Nat -> List T -> List C
 | _, [] => []
 | j, t :: ts => owC d j t :: zla d (j + 1) ts
def zox (d j : Nat) (f : Nat -> Option Ev) : T -> (Nat -> Option Ev)
 | .sl sz rows => upd f (d * 32 + j) (some ⟨true, sz, rows, 0, true⟩)
 | _ => f
def owE (d : Nat) : Nat -> List T -> (Nat -> Option Ev) -> (Nat -> Option Ev)
 | _, [], f => f
 | j, t :: ts, f => owE d (j + 1) ts (zox d j f t)
def qbk (d j : Nat) (f : Nat -> Option Ev) : T -> Prop
 | .sl _ _ => f (d * 32 + j) = none
 | .pin _ _ => False
 | _ => True
def zfc (d : Nat) : Nat -> List T -> (Nat -> Option Ev) -> Prop
 | _, [], _ => True
 | j, t :: ts, f => qbk d j f t /\ zfc d (j + 1) ts f
def zsy : Op -> Bool
 | .call { callee := .value _, .. } => true
 | .call { callee := .builtin .append, .. } => true
 | .call { callee := .builtin .copy, .. } => true
 | .buildSlice .. => true
 | .makeSlice .. => true
 | .makeMap .. => true
 | .lookup .. => true
 | .mapUpdate .. => true
 | .range .. => true
 | .next .. => true
 | _ => false
def isEo : V -> Bool
 | .one (.eo _ _ _ _ _) => true
 | _ => false
def isOw : V -> Bool
 | .one (.ow _ _) => true
 | _ => false
def ztt (P : Program) (σ : St) : Op -> Bool
 | .store _ a _ => isEo (σ.get P 0 a)
 | .slice t x _ _ _ => isOw (σ.get P t x)
 | _ => false
def zkk (P : Program) (o : Oper) (σ : St) : Bool := zsy o.op || ztt P σ o.op
def zbx (P : Program) (o : Oper) (σ : St) (K : St -> Prop) : Prop :=
 if zkk P o σ = true then za9 P o σ K else match st P o σ with
 | some (p, σ') => p /\ K σ'
 | none => False
def exG (P : Program) (ops : Array Oper) (o : Oper) (σ : St) (K : St -> Prop) : Prop :=
 match o.guard with
 | none => zbx P o σ K
 | some (j, want) => match (ops[j]?).bind (·.dst) with
  | some d => match σ.sl d with
   | .one (.t (.bool c)) => (c = want -> zbx P o (σ.put (some d) (.one (.t (.bool want)))) K) /\ (c = !want -> K ((σ.put (some d) (.one (.t (.bool !want)))).put o.dst (.tup [])))
   | .tup _ => K (σ.put o.dst (.tup []))
   | _ => False
  | none => False
def zbj (P : Program) (ops : Array Oper) : List Oper -> St -> (St -> Prop) -> Prop
 | [], σ, K => K σ
 | o :: os, σ, K => exG P ops o σ fun σ' => zbj P ops os σ' K
def zam {α : Type} (x : Option α) (K : α -> Prop) : Prop := match x with | some a => K a | none => False
theorem zoe {α : Type} (a : α) (K : α -> Prop) : zam (some a) K = K a := rfl
theorem zal {α : Type} {x : Option α} {K : α -> Prop} (h : zam x K) : ∃ a, x = some a /\ K a := by
 unfold zam at h
 split at h
 ·exact ⟨_, rfl, h⟩
 ·exact h.elim
def zlh (σ : St) (e : Nat) : Option Nat := (σ.ev e).map (·.gen)
def zte (σ : St) : List Nat -> Prop
 | [] => True
 | b :: bs => σ.bx b ≠ none /\ zte σ bs
theorem zh0 {σ : St} : ∀ {bs : List Nat}, zte σ bs -> ∀ b ∈ bs, σ.bx b ≠ none
 | [], _, b, hb => absurd hb (by simp)
 | c :: bs, h, b, hb => by
  rcases List.mem_cons.1 hb with rfl | hb
  ·exact h.1
  ·exact zh0 h.2 b hb
def CW (σ σ' : St) : C -> C -> Prop
 | _, .any => True
 | .t x, .t y => x = y
 | .rn x, .t y => x = y
 | .rn x, .rn y => x = y
 | .t (.pin v _), .cv u => v = u
 | .nl s, .nl s' => s = s'
 | .nl _, .ow e' g' => σ.ev e' = none /\ zlh σ' e' = some g'
 | .ow e g, .ow e' g' => e = e' /\ zlh σ e = some g /\ zlh σ' e = some g'
 | .ow e g, .t y => zam (σ.ev e) fun x => x.gen = g /\ x.on = false /\ y = .sl x.sz x.rows
 | .ow e g, .rn y => zam (σ.ev e) fun x => x.gen = g /\ x.deep = true /\ x.on = true /\ σ'.ev e = none /\ y = .sl x.sz x.rows
 | .bx b o, .bx b' o' => b = b' /\ o = o' /\ σ'.bx b ≠ none
 | .el cs o, .el cs' o' => cs = cs' /\ o = o'
 | .er cs o, .er cs' o' => cs = cs' /\ o = o'
 | .er cs o, .el cs' o' => cs = cs' /\ o = o'
 | .fn f caps, .fn f' caps' => f = f' /\ caps = caps' /\ zte σ' caps
 | .cv v, .cv v' => v = v'
 | .vw e g z o, .vw e' g' z' o' => e = e' /\ z = z' /\ o = o' /\ zlh σ e = some g /\ zlh σ' e = some g'
 | _, _ => False
def CWs (σ σ' : St) : List C -> List C -> Prop
 | [], [] => True
 | c :: cs, c' :: cs' => CW σ σ' c c' /\ CWs σ σ' cs cs'
 | _, _ => False
def VW (σ σ' : St) : V -> V -> Prop
 | _, .one .any => True
 | .one c, .one c' => CW σ σ' c c'
 | .agg cs, .agg cs' => CWs σ σ' cs cs'
 | _, _ => False
structure Weak (σ σ' : St) : Prop where
 sl : ∀ i, VW σ σ' (σ.sl i) (σ'.sl i)
 bx : ∀ b cs', σ'.bx b = some cs' -> ∃ cs, σ.bx b = some cs /\ CWs σ σ' cs cs'
 ev : ∀ e x', σ'.ev e = some x' -> (∃ x, σ.ev e = some x /\ x' = { x with gen := x'.gen }) \/ (σ.ev e = none /\ x'.rows = [] /\ x'.on = true)
def Wk (σ σ' : St) : Prop := ∀ n0 N g a w, Rel n0 N σ g a w -> ∃ g', Rel n0 N σ' g' a w /\ g'.A0 = g.A0 /\ g'.R0 = g.R0
theorem Wk.trans {σ σ' σ'' : St} (h : Wk σ σ') (k : Wk σ' σ'') : Wk σ σ'' := fun n0 N g a w hR => by
 obtain ⟨g1, h1, h2, h3⟩ := h n0 N g a w hR
 obtain ⟨g2, k1, k2, k3⟩ := k n0 N g1 a w h1
 exact ⟨g2, k1, k2.trans h2, k3.trans h3⟩
def zb4 (P : Program) (id : Nat) (ops : Array Oper) (σ : St) (K : St -> Prop) : Prop :=
 ∀ n0 N g a w, Rel n0 N σ g a w -> LtK n0 w -> (∀ o ∈ ops, ∀ d, o.dst = some d -> d < N) →
  (Code.region id ops true).wp P (fun e a' w' => e = .normal /\ ∃ σ' g', K σ' /\ Rel n0 N σ' g' a' w' /\ LtK n0 w' /\ Bk n0 w w' /\ g'.A0 = g.A0 /\ g'.R0 = g.R0) a w
theorem zb4.mono {P : Program} {id : Nat} {ops : Array Oper} {σ : St} {K K' : St -> Prop} (h : ∀ σ, K σ -> K' σ) (hh : zb4 P id ops σ K) : zb4 P id ops σ K' := fun n0 N g a w h1 h2 h3 =>
 wp_mono (hh n0 N g a w h1 h2 h3) fun e a' w' hq => by obtain ⟨he, σ', g', k, r⟩ := hq; exact ⟨he, σ', g', h _ k, r⟩
def zje (P : Program) : Code -> St -> (Exit -> St -> Prop) -> Prop
 | .skip, σ, Q => Q .normal σ
 | .region _ ops false, σ, Q => zbj P ops ops.toList σ (Q .normal)
 | .region id ops true, σ, Q => zb4 P id ops σ (Q .normal)
 | .seq a b, σ, Q => zje P a σ fun e σ' => match e with | .normal => zje P b σ' Q | e => Q e σ'
 | .cond c a b, σ, Q => match σ.get P 0 c with
  | .one (.t (.bool t)) => (t = true -> zje P a σ Q) /\ (t = false -> zje P b σ Q)
  | _ => False
 | .block id b, σ, Q => zje P b σ fun e σ' => match e with | .exit j => if j = id then Q .normal σ' else Q (.exit j) σ' | e => Q e σ'
 | .loop b, σ, Q => ∃ I : Nat -> St -> Prop, (∃ n σ0, Wk σ σ0 /\ I n σ0) /\ ∀ n σ1, I n σ1 -> zje P b σ1 fun e σ' => match e with | .normal => ∃ m σ2, m < n /\ Wk σ' σ2 /\ I m σ2 | e => Q e σ'
 | .exit id, σ, Q => Q (.exit id) σ
 | .ret, σ, Q => Q .ret σ
 | _, _, _ => False
inductive Fr where
 | seq (b : Code)
 | blk (id : Nat)
def ztv (P : Program) : List Fr -> (Exit -> St -> Prop) -> Exit -> St -> Prop
 | [], Q => Q
 | .seq b :: ks, Q => fun e σ => match e with | .normal => zje P b σ (ztv P ks Q) | e => ztv P ks Q e σ
 | .blk id :: ks, Q => fun e σ => match e with | .exit j => if j = id then ztv P ks Q .normal σ else ztv P ks Q (.exit j) σ | e => ztv P ks Q e σ
def ex (P : Program) (c : Code) (ks : List Fr) (Q : Exit -> St -> Prop) (σ : St) : Prop := zje P c σ (ztv P ks Q)
def exo (P : Program) (ops : Array Oper) (os : List Oper) (ks : List Fr) (Q : Exit -> St -> Prop) (σ : St) : Prop := zbj P ops os σ (ztv P ks Q .normal)
def rt (P : Program) (e : Exit) (ks : List Fr) (Q : Exit -> St -> Prop) (σ : St) : Prop := ztv P ks Q e σ
def thn (s : qd8) (K : St -> Prop) : Prop := match s with | some (p, σ') => p /\ K σ' | none => False
theorem qa4 (p : Prop) (σ' : St) (K : St -> Prop) : thn (some (p, σ')) K = (p /\ K σ') := rfl
def tst (v : V) (a b : Prop) : Prop := match v with | .one (.t (.bool t)) => (t = true -> a) /\ (t = false -> b) | _ => False
theorem qap (t : Bool) (a b : Prop) : tst (.one (.t (.bool t))) a b = ((t = true -> a) /\ (t = false -> b)) := rfl
section
variable (P : Program) (ks : List Fr) (Q : Exit -> St -> Prop) (σ : St)
theorem ex_seq (a b : Code) : ex P (.seq a b) ks Q σ = ex P a (.seq b :: ks) Q σ := rfl
theorem qc7 (i : Nat) (b : Code) : ex P (.block i b) ks Q σ = ex P b (.blk i :: ks) Q σ := rfl
theorem qfx : ex P .skip ks Q σ = rt P .normal ks Q σ := rfl
theorem qg7 (i : Nat) : ex P (.exit i) ks Q σ = rt P (.exit i) ks Q σ := rfl
theorem ex_ret : ex P .ret ks Q σ = rt P .ret ks Q σ := rfl
theorem zwz (i : Nat) (ops : Array Oper) : ex P (.region i ops false) ks Q σ = exo P ops ops.toList ks Q σ := rfl
theorem qht (c : Operand) (a b : Code) : ex P (.cond c a b) ks Q σ = tst (σ.get P 0 c) (ex P a ks Q σ) (ex P b ks Q σ) := rfl
theorem zkp (b : Code) : rt P .normal (.seq b :: ks) Q σ = ex P b ks Q σ := rfl
theorem zo4 (i : Nat) (b : Code) : rt P (.exit i) (.seq b :: ks) Q σ = rt P (.exit i) ks Q σ := rfl
theorem zs0 (b : Code) : rt P .ret (.seq b :: ks) Q σ = rt P .ret ks Q σ := rfl
theorem zld (i : Nat) : rt P .normal (.blk i :: ks) Q σ = rt P .normal ks Q σ := rfl
theorem zta (i : Nat) : rt P .ret (.blk i :: ks) Q σ = rt P .ret ks Q σ := rfl
theorem zpm (j i : Nat) : rt P (.exit j) (.blk i :: ks) Q σ = if j = i then rt P .normal ks Q σ else rt P (.exit j) ks Q σ := rfl
theorem rt_nil (e : Exit) : rt P e [] Q σ = Q e σ := rfl
theorem qgo (ops : Array Oper) : exo P ops [] ks Q σ = rt P .normal ks Q σ := rfl
variable (ops : Array Oper) (os : List Oper) (d : Option Nat) (ty : TypeId) (ps : String) (af : Array Edge)
theorem qaw (x : Operand) : exo P ops (⟨d, .move x, ty, ps, af, none⟩ :: os) ks Q σ = exo P ops os ks Q (σ.put d (σ.get P ty x)) := by
 simp [exo, zbj, exG, zbx, zkk, ztt, zsy, st, st0, zjz, St.out]
theorem zti (x : Operand) : exo P ops (⟨d, .assign x, ty, ps, af, none⟩ :: os) ks Q σ = exo P ops os ks Q (σ.put d (σ.get P ty x)) := by
 simp [exo, zbj, exG, zbx, zkk, ztt, zsy, st, st0, zjz, St.out]
theorem qcg (t : TypeId) (x : Operand) : exo P ops (⟨d, .load t x, ty, ps, af, none⟩ :: os) ks Q σ = thn (σ.out d ((σ.at (σ.get P 0 x)).bind fun (cs, q) => ldC P t cs q)) (exo P ops os ks Q) := rfl
theorem zxi (op : BinOp) (t t' : TypeId) (x y : Operand) : exo P ops (⟨d, .binOp op t x y t', ty, ps, af, none⟩ :: os) ks Q σ = thn (σ.outP d (bin P op t (σ.get P t x) (σ.get P t y))) (exo P ops os ks Q) := rfl
theorem qb3 (op : UnOp) (t : TypeId) (x : Operand) : exo P ops (⟨d, .unOp op t x, ty, ps, af, none⟩ :: os) ks Q σ = thn (σ.out d ((un op (σ.get P ty x)).map .one)) (exo P ops os ks Q) := rfl
theorem zj5 (t : TypeId) (x i : Operand) : exo P ops (⟨d, .indexAddr t x i, ty, ps, af, none⟩ :: os) ks Q σ = thn (st P ⟨d, .indexAddr t x i, ty, ps, af, none⟩ σ) (exo P ops os ks Q) := rfl
theorem qf3 (asx : Array Operand) (ts : Array TypeId) : exo P ops (⟨d, .call ⟨.builtin .len, asx, ts⟩, ty, ps, af, none⟩ :: os) ks Q σ = thn (st P ⟨d, .call ⟨.builtin .len, asx, ts⟩, ty, ps, af, none⟩ σ) (exo P ops os ks Q) := rfl
end
attribute [go_sem ↓] ex_seq qc7 qfx qg7 ex_ret zwz qht zkp zo4 zs0 zld zta zpm rt_nil qgo qaw zti qcg zxi qb3 zj5 qf3
attribute [go_sem] qap qa4 St.put St.get ofV zie st st0 St.out St.outP bin binI binS zjz vop ziv zvk zp1 St.outV un ldC St.at zac
theorem qfd {α : Type} (f : Nat -> α) (i j : Nat) (x : α) : upd f i x j = if j = i then x else f j := rfl
attribute [go_sem] qfd
end Go.Proofs.YtaaniggpnljckaaGreat
namespace Go.Proofs.YtaaniggpnljckaaGreat
set_option linter.unusedSimpArgs false
set_option linter.unusedVariables false
set_option linter.unusedSectionVars false
set_option maxRecDepth 4000
open Go.RowKit
inductive PD where
 | int (n : Int)
 | oct (n : Int)
 | bool (b : Bool)
 | str (s : List UInt8)
 | sl (sz : Nat) (xs : List PD)
 | st (fs : List PD)
mutual
def PD.cells : PD -> List T
 | .int n => [.int .i64 n]
 | .oct n => [.int .u8 n]
 | .bool b => [.bool b]
 | .str s => [.str s]
 | .sl sz xs => [.sl sz (PD.rows xs)]
 | .st fs => PD.flat fs
def PD.rows : List PD -> List (List T)
 | [] => []
 | x :: xs => x.cells :: PD.rows xs
def PD.flat : List PD -> List T
 | [] => []
 | x :: xs => x.cells ++ PD.flat xs
end
theorem PD.rows_map (xs : List PD) : PD.rows xs = xs.map PD.cells := by
 induction xs with
 | nil => rfl
 | cons x xs ih => rw [PD.rows, ih]; rfl
theorem zfu {w : World} {A : Nat -> Prop} : ∀ {t1 t2 : List T} {v1 v2 : List Value}, zad w A t1 v1 -> zad w A t2 v2 -> zad w A (t1 ++ t2) (v1 ++ v2)
 | [], _, v1, _, h, k => by unfold zad at h; subst h; exact k
 | t :: ts, _, v1, _, h, k => by
  unfold zad at h
  obtain ⟨v, vs', rfl, h1, h2⟩ := h
  rw [List.cons_append, List.cons_append]
  unfold zad
  exact ⟨v, _, rfl, h1, zfu h2 k⟩
theorem zc1 {w : World} {A : Nat -> Prop} {t : T} {v : Value} (h : zai w A t v) : zad w A [t] [v] := by
 unfold zad
 exact ⟨v, [], rfl, h, by unfold zad; rfl⟩
def zfs (P : Program) (ok : TypeId -> Bool) : List Field -> Nat -> Nat -> Bool
 | [], o, n => o == n
 | f :: fs, o, n => f.offset == o && ok f.type && zfs P ok fs (o + P.cellsOf f.type) n
def zwe (P : Program) (ok : TypeId -> Bool) (t : TypeId) : Bool :=
 match P.underlying t with
 | some (.int k) => k == .i64 || k == .u8
 | some .bool | some .string => true
 | some (.slice e) => ok e && decide (0 < P.cellsOf e)
 | some (.struct fs) => zfs P ok fs.toList 0 (P.cellsOf t)
 | _ => false
mutual
def zb1 (P : Program) : TypeId -> PD -> Prop
 | t, .int _ => P.underlying t = some (.int .i64)
 | t, .oct n => P.underlying t = some (.int .u8) /\ 0 <= n /\ n <= 255
 | t, .bool _ => P.underlying t = some .bool
 | t, .str _ => P.underlying t = some .string
 | t, .sl sz xs => ∃ e, P.underlying t = some (.slice e) /\ sz = P.cellsOf e /\ zdp P e xs
 | t, .st fs => ∃ fl, P.underlying t = some (.struct fl) /\ zmn P (fl.toList.map (·.type)) fs
def zdp (P : Program) : TypeId -> List PD -> Prop
 | _, [] => True
 | e, x :: xs => zb1 P e x /\ zdp P e xs
def zmn (P : Program) : List TypeId -> List PD -> Prop
 | ts, [] => ts = []
 | ts, x :: xs => ∃ t ts', ts = t :: ts' /\ zb1 P t x /\ zmn P ts' xs
end
theorem zdp.of_mem {P : Program} {e : TypeId} : ∀ {xs : List PD}, (∀ x ∈ xs, zb1 P e x) -> zdp P e xs
 | [], _ => by simp [zdp]
 | x :: xs, h => by rw [zdp]; exact ⟨h x (by simp), zdp.of_mem fun y hy => h y (by simp [hy])⟩
theorem zdp.mem {P : Program} {e : TypeId} : ∀ {xs : List PD}, zdp P e xs -> ∀ x ∈ xs, zb1 P e x
 | [], _, x, hx => by simp at hx
 | y :: xs, h, x, hx => by
  rw [zdp] at h
  rcases List.mem_cons.1 hx with rfl | hx
  ·exact h.1
  ·exact zdp.mem h.2 x hx
theorem ztc {α : Type} (n : Nat) (p : Nat -> α -> Prop) (h : ∀ i, i < n -> ∃ a, p i a) : ∃ l : List α, l.length = n /\ ∀ i (hi : i < l.length), p i l[i] := by
 induction n with
 | zero => exact ⟨[], rfl, fun i hi => by simp at hi⟩
 | succ n ih =>
  obtain ⟨l, h1, h2⟩ := ih fun i hi => h i (by omega)
  obtain ⟨a, ha⟩ := h n (by omega)
  refine ⟨l ++ [a], by simp [h1], fun i hi => ?_⟩
  rcases Nat.lt_or_ge i l.length with hl | hl
  ·rw [List.getElem_append_left hl]; exact h2 i hl
  ·have : i = n := by simp at hi; omega
   subst this
   rw [List.getElem_append_right (by omega)]
   simpa [h1] using ha
section
variable {H : Type} {enc : TypeId × Value -> H} {P : Program} {w : World} {ok : TypeId -> Bool}
theorem zji {n : Nat} (ih : ∀ t cs x, ok t = true -> DataW.trod enc P w 0 (fun _ => true) true n t cs = some x -> ∃ d : PD, zad w (· < w.heap.size) d.cells cs /\ zb1 P t d) : ∀ (fs : List Field) (o m : Nat) (cs : List Value), zfs P ok fs o m = true -> cs.length = m →
  (∀ f ∈ fs, ∃ x, DataW.trod enc P w 0 (fun _ => true) true n f.type ((cs.drop f.offset).take (P.cellsOf f.type)) = some x) -> ∃ ds : List PD, zad w (· < w.heap.size) (PD.flat ds) (cs.drop o) /\ zmn P (fs.map (·.type)) ds
 | [], o, m, cs, h, hl, _ => by
  rw [zfs, beq_iff_eq] at h
  exact ⟨[], by rw [PD.flat, List.drop_of_length_le (by omega)]; unfold zad; rfl, by rw [List.map_nil, zmn]⟩
 | f :: fs, o, m, cs, h, hl, hx => by
  rw [zfs, Bool.and_eq_true, Bool.and_eq_true, beq_iff_eq] at h
  obtain ⟨⟨h1, h2⟩, h3⟩ := h
  obtain ⟨x, hx0⟩ := hx f (by simp)
  obtain ⟨d, hd1, hd2⟩ := ih _ _ _ h2 hx0
  obtain ⟨ds, hs1, hs2⟩ := zji ih fs _ m cs h3 hl fun g hg => hx g (by simp [hg])
  refine ⟨d :: ds, ?_, ?_⟩
  ·rw [PD.flat]
   have := zfu hd1 hs1
   rw [h1, <- List.drop_drop, List.take_append_drop] at this
   exact this
  ·rw [List.map_cons, zmn]
   exact ⟨_, _, rfl, hd2, hs2⟩
theorem zpg (hclosed : ∀ t, ok t = true -> zwe P ok t = true) : ∀ (fuel : Nat) (t : TypeId) (cs : List Value) (x : DataW H × List MemPlace), ok t = true -> DataW.trod enc P w 0 (fun _ => true) true fuel t cs = some x →
  ∃ d : PD, zad w (· < w.heap.size) d.cells cs /\ zb1 P t d := by
 intro fuel
 induction fuel with
 | zero => intro t cs x _ h; simp [DataW.trod] at h
 | succ n ih =>
  intro t cs x hok h
  have ht := hclosed t hok
  unfold zwe at ht
  split at ht
  ·rename_i k hu
   have hk : k = .i64 \/ k = .u8 := by simpa using ht
   obtain ⟨z, rfl, rfl, hw⟩ := DataW.trod_int hu h
   rcases hk with rfl | rfl
   ·refine ⟨.int z, ?_, ?_⟩
    ·rw [PD.cells]
     refine zc1 ?_
     unfold zai
     simp [Lit.wf, IntKind.min, IntKind.max, IntKind.bits, IntKind.signed] at hw
     have m1 : IntKind.min .i64 = -9223372036854775808 := by decide
     have m2 : IntKind.max .i64 = 9223372036854775807 := by decide
     exact ⟨rfl, by omega, by omega⟩
    ·rw [zb1]; exact hu
   ·simp [Lit.wf, IntKind.min, IntKind.max, IntKind.bits, IntKind.signed] at hw
    refine ⟨.oct z, ?_, ?_⟩
    ·rw [PD.cells]
     refine zc1 ?_
     unfold zai
     have m1 : IntKind.min .u8 = 0 := by decide
     have m2 : IntKind.max .u8 = 255 := by decide
     exact ⟨rfl, by omega, by omega⟩
    ·rw [zb1]; exact ⟨hu, by omega, by omega⟩
  ·rename_i hu
   obtain ⟨b, rfl, rfl⟩ := DataW.trod_bool hu h
   exact ⟨.bool b, by rw [PD.cells]; exact zc1 (by unfold zai; rfl), by rw [zb1]; exact hu⟩
  ·rename_i hu
   obtain ⟨s, rfl, rfl, hs⟩ := DataW.trod_string hu h
   unfold maxLen at hs
   have hz : s.data.toList.length = s.size := by rw [Array.length_toList]; rfl
   refine ⟨.str s.data.toList, ?_, by rw [zb1]; exact hu⟩
   rw [PD.cells]
   refine zc1 ?_
   unfold zai
   exact ⟨rfl, by rw [hz]; omega⟩
  ·rename_i e hu
   rw [Bool.and_eq_true, decide_eq_true_eq] at ht
   obtain ⟨he, hc⟩ := ht
   rcases DataW.trod_slice hu h with ⟨rfl, _⟩ | ⟨a, len, cap, elems, rest, m, hm, rfl, _, _, hl, hcap, hel, hat, _⟩
   ·refine ⟨.sl (P.cellsOf e) [], ?_, ?_⟩
    ·rw [PD.cells, PD.rows]
     refine zc1 ?_
     unfold zai
     exact ⟨none, 0, rfl, Nat.le_refl _, by omega, Or.inl rfl⟩
    ·rw [zb1]; exact ⟨e, hu, rfl, by rw [zdp]; trivial⟩
   ·obtain rfl : n = m := by omega
    unfold maxLen at hcap
    have hone : ∀ i, i < len -> ∃ p : PD × List Value, p.2.length = P.cellsOf e /\ (∀ j, j < P.cellsOf e -> w.cell? ((a.add (i * P.cellsOf e)).add j) = p.2[j]?) /\ zad w (· < w.heap.size) p.1.cells p.2 /\ zb1 P e p.1 := by
     intro i hi
     have h1 := hat i hi
     rw [List.getElem?_eq_getElem (by omega)] at h1
     obtain ⟨cs', hc1, hc2⟩ := Option.bind_eq_some_iff.1 h1
     obtain ⟨_, hlen, hcell⟩ := World.cells?_some hc1
     obtain ⟨d, hd1, hd2⟩ := ih e cs' _ he hc2
     exact ⟨(d, cs'), hlen, hcell, hd1, hd2⟩
    obtain ⟨l, hl1, hl2⟩ := ztc len _ hone
    refine ⟨.sl (P.cellsOf e) (l.map (·.1)), ?_, ?_⟩
    ·rw [PD.cells, PD.rows_map]
     refine zc1 ?_
     unfold zai
     refine ⟨some a, cap, by simp [hl1], by simp; omega, by omega, ?_⟩
     by_cases hz : len = 0
     ·left; rw [List.eq_nil_of_length_eq_zero (by omega : l.length = 0)]; rfl
     ·right
      have h0 := hl2 0 (by omega)
      have hcell0 := h0.2.1 0 hc
      rw [List.getElem?_eq_getElem (by rw [h0.1]; exact hc)] at hcell0
      simp only [Nat.zero_mul, Addr.add, if_true] at hcell0
      have hsp : a.spot = none /\ a.block < w.heap.size := by
       unfold World.cell? at hcell0
       split at hcell0
       ·rename_i hb
        refine ⟨?_, (Array.getElem?_eq_some_iff.1 hb).1⟩
        cases hs : a.spot with
        | none => rfl
        | some s => simp [hs] at hcell0
       ·cases hcell0
      obtain ⟨b, o, sp⟩ := a
      simp only at hsp
      obtain ⟨rfl, hlt⟩ := hsp
      refine ⟨b, o, rfl, hlt, zak.mk fun i r hi => ?_⟩
      simp only [List.getElem?_map, Option.map_eq_some_iff] at hi
      obtain ⟨y, ⟨p, hp, rfl⟩, rfl⟩ := hi
      obtain ⟨hi', rfl⟩ := List.getElem?_eq_some_iff.1 hp
      have h1 := hl2 i hi'
      refine ⟨h1.2.2.1.len ▸ h1.1, zaz.mk fun j c hj => ?_⟩
      obtain ⟨v, hv1, hv2⟩ := h1.2.2.1.at j c hj
      refine ⟨v, ?_, hv2⟩
      have hjj : j < P.cellsOf e := by
       have := (List.getElem?_eq_some_iff.1 hv1).1
       rw [h1.1] at this; exact this
      rw [<- hv1, <- h1.2.1 j hjj]
      congr 1
      simp only [Addr.add]
      split <;> split <;> simp_all [Nat.add_assoc]
    ·rw [zb1]
     refine ⟨e, hu, rfl, zdp.of_mem fun x hx => ?_⟩
     obtain ⟨y, hy, rfl⟩ := List.mem_map.1 hx
     obtain ⟨i, hi, rfl⟩ := List.mem_iff_getElem.1 hy
     exact (hl2 i hi).2.2.2
  ·rename_i fs hu
   obtain ⟨xs, m, hm, _, hlen, hxs, hf⟩ := DataW.trod_struct hu h
   obtain rfl : n = m := by omega
   obtain ⟨ds, h1, h2⟩ := zji ih fs.toList 0 (P.cellsOf t) cs ht hlen fun f hfm => by
    obtain ⟨i, hi, rfl⟩ := List.mem_iff_getElem.1 hfm
    have := hf i fs[i] (by simp at hi; simp [hi])
    refine ⟨xs[i]'(by simp at hi; omega), ?_⟩
    rw [List.getElem?_eq_getElem (by simp at hi; omega)] at this
    simpa using this
   refine ⟨.st ds, ?_, ?_⟩
   ·rw [PD.cells]; simpa using h1
   ·rw [zb1]; exact ⟨fs, hu, by simpa using h2⟩
  ·cases ht
end
theorem zb1.sl {P : Program} {t e : TypeId} {d : PD} (h : zb1 P t d) (hu : P.underlying t = some (.slice e)) : ∃ xs, d = .sl (P.cellsOf e) xs /\ ∀ x ∈ xs, zb1 P e x := by
 cases d with
 | int n => rw [zb1, hu] at h; cases h
 | oct n => rw [zb1, hu] at h; cases h.1
 | bool b => rw [zb1, hu] at h; cases h
 | str s => rw [zb1, hu] at h; cases h
 | sl sz xs =>
  rw [zb1] at h
  obtain ⟨e', h1, h2, h3⟩ := h
  rw [hu] at h1
  cases h1
  exact ⟨xs, by rw [h2], h3.mem⟩
 | st fs => rw [zb1] at h; obtain ⟨e, h1, _⟩ := h; rw [hu] at h1; cases h1
theorem zb1.oct {P : Program} {t : TypeId} {d : PD} (h : zb1 P t d) (hu : P.underlying t = some (.int .u8)) : ∃ n : UInt8, d = .oct n.toNat := by
 cases d with
 | int n => rw [zb1, hu] at h; cases h
 | oct n =>
  rw [zb1] at h
  obtain ⟨_, h1, h2⟩ := h
  exact ⟨UInt8.ofNat n.toNat, by
   rw [show ((UInt8.ofNat n.toNat).toNat : Int) = n by rw [UInt8.toNat_ofNat']; omega]⟩
 | bool b => rw [zb1, hu] at h; cases h
 | str s => rw [zb1, hu] at h; cases h
 | sl sz xs => rw [zb1] at h; obtain ⟨e, h1, _⟩ := h; rw [hu] at h1; cases h1
 | st fs => rw [zb1] at h; obtain ⟨e, h1, _⟩ := h; rw [hu] at h1; cases h1
end Go.Proofs.YtaaniggpnljckaaGreat
namespace Go.Proofs.YtaaniggpnljckaaGreat
set_option linter.unusedSimpArgs false
set_option linter.unusedVariables false
set_option linter.unusedSectionVars false
set_option maxRecDepth 4000
open Go.RowKit
structure Mv (σ σ' : St) (g g' : Gh) (w w' : World) : Prop where
 same : ∀ b, Fix σ g w b -> w'.heap[b]? = w.heap[b]?
 fix : ∀ b, Fix σ g w b -> Fix σ' g' w' b
 bx : ∀ b, σ.bx b ≠ none -> g'.β b = g.β b /\ σ'.bx b ≠ none
 ev : ∀ e n, σ.has e n -> σ'.has e n /\ g'.ψ e n = g.ψ e n
 fr : ∀ b, zbr σ g w b -> ∀ e, σ'.On e -> b ∉ g'.φ e
section
variable {σ σ' : St} {g g' : Gh} {w w' : World} (m : Mv σ σ' g g' w w')
include m
theorem Mv.rep {t : T} {v : Value} (h : zai w (Fix σ g w) t v) : zai w' (Fix σ' g' w') t v := zai.keep m.same m.fix t v h
theorem Mv.cr : ∀ {c : C} {v : Value}, CR σ g w c v -> CR σ' g' w' c v
 | .t x, v, h => m.rep h
 | .nl _, v, h => h
 | .ow e n, v, h => by
  obtain ⟨h1, h2⟩ := h
  obtain ⟨k1, k2⟩ := m.ev e n h2
  exact ⟨h1.trans k2.symm, k1⟩
 | .bx b o, v, h => by
  obtain ⟨h1, h2⟩ := h
  obtain ⟨k1, k2⟩ := m.bx b h2
  exact ⟨by rw [k1]; exact h1, k2⟩
 | .el cs o, v, h => by
  obtain ⟨b, q, h1, h2, h3⟩ := h
  exact ⟨b, q, h1, m.fix b h2, zaz.keep m.same m.fix b (m.same b h2) q cs h3⟩
 | .eo e s sz i o, v, h => by
  obtain ⟨b, n, c, h1, h2, h3, h4⟩ := h
  obtain ⟨k1, k2⟩ := m.ev e s h4
  exact ⟨b, n, c, k2.trans h1, h2, h3, k1⟩
 | .fn f caps, v, h => by
  obtain ⟨h1, h2⟩ := h
  refine ⟨?_, fun b hb => (m.bx b (h2 b hb)).2⟩
  rw [h1]
  congr 2
  exact List.map_congr_left fun b hb => by rw [(m.bx b (h2 b hb)).1]
 | .cv _, v, h => h
 | .any, _, _ => trivial
 | .rn x, v, h => zai.keep (fun b hb => m.same b hb.1) (fun b hb => ⟨m.fix b hb.1, m.fr b hb⟩) x v h
 | .er cs o, v, h => by
  obtain ⟨b, q, h1, h2, h3⟩ := h
  exact ⟨b, q, h1, ⟨m.fix b h2.1, m.fr b h2⟩, zaz.keep (fun b hb => m.same b hb.1) (fun b hb => ⟨m.fix b hb.1, m.fr b hb⟩) b (m.same b h2.1) q cs h3⟩
 | .vw e s sz o, v, h => by
  obtain ⟨b, n, c, h1, h2, h3, h4⟩ := h
  obtain ⟨k1, k2⟩ := m.ev e s h4
  exact ⟨b, n, c, k2.trans h1, h2, h3, k1⟩
theorem Mv.crs : ∀ {cs : List C} {vs : List Value}, CRs σ g w cs vs -> CRs σ' g' w' cs vs
 | [], vs, h => h
 | c :: cs, vs, h => by
  obtain ⟨v, vs', rfl, h1, h2⟩ := h
  exact ⟨v, vs', rfl, m.cr h1, Mv.crs h2⟩
theorem Mv.crx {x : Bool × List C} {v : Value} (h : CRx σ g w x v) : CRx σ' g' w' x v := by
 unfold CRx at h ⊢
 split at h
 ·rw [if_pos ‹_›]; obtain ⟨a, h1, h2⟩ := h; exact ⟨a, h1, m.crs h2⟩
 ·rw [if_neg ‹_›]; obtain ⟨c, h1, h2⟩ := h; exact ⟨c, h1, m.cr h2⟩
theorem Mv.crt : ∀ {xs : List (Bool × List C)} {vs : List Value}, CRt σ g w xs vs -> CRt σ' g' w' xs vs
 | [], vs, h => h
 | x :: xs, vs, h => by
  obtain ⟨v, vs', rfl, h1, h2⟩ := h
  exact ⟨v, vs', rfl, m.crx h1, Mv.crt h2⟩
theorem Mv.vr : ∀ {x : V} {v : Value}, VR σ g w x v -> VR σ' g' w' x v
 | .one _, _, h => m.cr h
 | .agg _, _, h => by obtain ⟨a, h1, h2⟩ := h; exact ⟨a, h1, m.crs h2⟩
 | .tup _, _, h => by obtain ⟨a, h1, h2⟩ := h; exact ⟨a, h1, m.crt h2⟩
theorem Mv.evr {x : Ev} {v : Value} {fp : List Nat} (h : EvR w (Fix σ g w) x v fp) (hs : ∀ b ∈ fp, w'.heap[b]? = w.heap[b]?) : EvR w' (Fix σ' g' w') x v fp := by
 obtain ⟨ao, cap, h1, h2, h3, h4⟩ := h
 refine ⟨ao, cap, h1, h2, h3, ?_⟩
 rcases h4 with h4 | ⟨b, cells, ty, fps, k1, k2, k3, k4, k5⟩
 ·exact Or.inl h4
 ·subst k2
  refine Or.inr ⟨b, cells, ty, fps, k1, rfl, by rw [hs b (by simp)]; exact k3, k4, ?_⟩
  split at k5
  ·rw [if_pos ‹_›]; exact zag.keep cells 0 x.sz x.rows fps k5 fun b' hb' => hs b' (by simp [hb'])
  ·rw [if_neg ‹_›]; exact ⟨k5.1, zak.keep m.same m.fix b (hs b (by simp)) 0 x.sz x.rows k5.2⟩
end
theorem CRs.len {σ : St} {g : Gh} {w : World} : ∀ {cs : List C} {vs : List Value}, CRs σ g w cs vs -> vs.length = cs.length
 | [], vs, h => by rw [show vs = [] from h]; rfl
 | c :: cs, vs, h => by
  obtain ⟨v, vs', rfl, _, h2⟩ := h
  simp [CRs.len h2]
theorem CRs.at {σ : St} {g : Gh} {w : World} : ∀ {cs : List C} {vs : List Value}, CRs σ g w cs vs -> ∀ (j : Nat) c, cs[j]? = some c -> ∃ v, vs[j]? = some v /\ CR σ g w c v
 | [], _, _, j, c, h => by simp at h
 | d :: cs, vs, h, 0, c, hj => by
  obtain ⟨v, vs', rfl, h1, _⟩ := h
  simp only [List.getElem?_cons_zero, Option.some.injEq] at hj
  subst hj
  exact ⟨v, rfl, h1⟩
 | d :: cs, vs, h, j + 1, c, hj => by
  obtain ⟨v, vs', rfl, _, h2⟩ := h
  simpa using CRs.at h2 j c (by simpa using hj)
theorem CRs.mk {σ : St} {g : Gh} {w : World} : ∀ {cs : List C} {vs : List Value}, vs.length = cs.length -> (∀ (j : Nat) c v, cs[j]? = some c -> vs[j]? = some v -> CR σ g w c v) -> CRs σ g w cs vs
 | [], vs, hl, _ => List.length_eq_zero_iff.1 hl
 | c :: cs, [], hl, _ => by simp at hl
 | c :: cs, v :: vs, hl, h => ⟨v, vs, rfl, h 0 c v rfl rfl, CRs.mk (by simpa using hl) fun j c v h1 h2 => h (j + 1) c v (by simpa using h1) (by simpa using h2)⟩
theorem CRs.append {σ : St} {g : Gh} {w : World} : ∀ {cs ds : List C} {vs us : List Value}, CRs σ g w cs vs -> CRs σ g w ds us -> CRs σ g w (cs ++ ds) (vs ++ us)
 | [], _, vs, _, h, k => by rw [show vs = [] from h]; exact k
 | c :: cs, _, vs, _, h, k => by
  obtain ⟨v, vs', rfl, h1, h2⟩ := h
  exact ⟨v, _, rfl, h1, CRs.append h2 k⟩
theorem CRs.take {σ : St} {g : Gh} {w : World} (n : Nat) {cs : List C} {vs : List Value} (h : CRs σ g w cs vs) : CRs σ g w (cs.take n) (vs.take n) := by
 refine CRs.mk (by simp [h.len]) fun j c v h1 h2 => ?_
 rw [List.getElem?_take] at h1 h2
 split at h1
 ·rw [if_pos ‹_›] at h2
  obtain ⟨u, k1, k2⟩ := h.at j c h1
  rw [h2] at k1
  cases k1
  exact k2
 ·cases h1
theorem CRs.drop {σ : St} {g : Gh} {w : World} (n : Nat) {cs : List C} {vs : List Value} (h : CRs σ g w cs vs) : CRs σ g w (cs.drop n) (vs.drop n) := by
 refine CRs.mk (by simp [h.len]) fun j c v h1 h2 => ?_
 rw [List.getElem?_drop] at h1 h2
 obtain ⟨u, k1, k2⟩ := h.at _ c h1
 rw [h2] at k1
 cases k1
 exact k2
theorem Rel.fixes {n0 : Nat -> Prop} {N : Nat} {σ : St} {g : Gh} {a : Act} {w : World} (h : Rel n0 N σ g a w) {e : Nat} {x : Ev} (he : σ.ev e = some x) (ho : x.on = true) {b : Nat} (hb : b ∈ (g.φ e).tail) (hl : b < w.heap.size) : Fix σ g w b := by
 have hmem : b ∈ g.φ e := List.mem_of_mem_tail hb
 have hon : σ.On e := ⟨x, he, ho⟩
 refine ⟨fun k hk hkb => h.ebx e k hon hk (hkb ▸ hmem), fun e' x' he' ho' hh => ?_, hl, (h.ebase e hon b hmem).1⟩
 by_cases hee : e' = e
 ·subst hee
  have hn := h.nodup e' hon
  cases hp : g.φ e' with
  | nil => rw [hp] at hb; simp at hb
  | cons y ys =>
   rw [hp] at hb hh hn
   simp only [List.head?_cons, Option.some.injEq] at hh
   subst hh
   exact (List.nodup_cons.1 hn).1 hb
 ·have hd := h.apart e e' hon ⟨x', he', ho'⟩ (Ne.symm hee) b hmem
  cases hp : g.φ e' with
  | nil => rw [hp] at hh; simp at hh
  | cons y ys =>
   rw [hp] at hh hd
   simp only [List.head?_cons, Option.some.injEq] at hh
   exact hd (by simp [hh])
theorem Mv.of_eq {σ σ' : St} (g : Gh) (w : World) (h1 : σ'.bx = σ.bx) (h2 : σ'.ev = σ.ev) : Mv σ σ' g g w w :=
 ⟨fun _ _ => rfl, fun b h => by unfold Fix at h ⊢; rw [h1, h2]; exact h, fun b hb => ⟨rfl, by rw [h1]; exact hb⟩, fun e n he => ⟨by unfold St.has; rw [h2]; exact he, rfl⟩, fun b h e he => h.2 e (by unfold St.On at he ⊢; rw [<- h2]; exact he)⟩
theorem Rel.slots_of {n0 : Nat -> Prop} {N : Nat} {σ σ' : St} {g : Gh} {a a' : Act} {w : World} (h : Rel n0 N σ g a w) (h1 : σ'.bx = σ.bx) (h2 : σ'.ev = σ.ev) (hd : a'.defers = []) (hz : a'.tmps.size = N)
  (hs : ∀ i, VR σ g w (σ'.sl i) (a'.tmps.getD i (g.R0.ξ i))) : Rel n0 N σ' g a' w := by
 have m := Mv.of_eq g w h1 h2
 refine ⟨hd, hz, h.anew, fun i => m.vr (hs i), fun b cs hb => ?_, ?_, ?_, fun e x he ho => ?_, fun e x he ho => ?_, h.slc, fun e he => ?_, fun e he => ?_, fun e he => ?_, fun e e' he he' => ?_, fun e k he hk => ?_⟩
 ·rw [h1] at hb
  obtain ⟨vs, ty, k1, k2⟩ := h.boxes b cs hb
  exact ⟨vs, ty, k1, m.crs k2⟩
 ·rw [h1]; exact h.base
 ·rw [h1]; exact h.inj
 ·rw [h2] at he
  exact m.evr (h.evs e x he ho) fun _ _ => rfl
 ·rw [h2] at he
  exact ⟨m.rep (h.offs e x he ho).1, (h.offs e x he ho).2⟩
 ·exact h.ebase e (by unfold St.On at he ⊢; rw [<- h2]; exact he)
 ·exact h.etop e (by unfold St.On at he ⊢; rw [<- h2]; exact he)
 ·exact h.nodup e (by unfold St.On at he ⊢; rw [<- h2]; exact he)
 ·exact h.apart e e' (by unfold St.On at he ⊢; rw [<- h2]; exact he) (by unfold St.On at he' ⊢; rw [<- h2]; exact he')
 ·rw [h1] at hk; exact h.ebx e k (by unfold St.On at he ⊢; rw [<- h2]; exact he) hk
theorem zko {N i : Nat} {a : Act} (hz : a.tmps.size = N) (hi : i < N) (v u : Value) : (a.tmps.setIfInBounds i v).getD i u = v := by
 rw [Array.getD_eq_getD_getElem?, Array.getElem?_setIfInBounds]
 simp [hz, hi]
theorem zgw {i j : Nat} (a : Act) (h : j ≠ i) (v u : Value) : (a.tmps.setIfInBounds i v).getD j u = a.tmps.getD j u := by
 rw [Array.getD_eq_getD_getElem?, Array.getD_eq_getD_getElem?, Array.getElem?_setIfInBounds_ne (by omega)]
theorem Rel.slot_at {n0 : Nat -> Prop} {N : Nat} {σ : St} {g : Gh} {a : Act} {w : World} (h : Rel n0 N σ g a w) {i : Nat} (hi : i < 1000000) : VR σ g w (σ.sl i) (a.tmps.getD i undef) := by
 have := h.slots i
 rwa [g.R0.lo i hi] at this
theorem Rel.put {n0 : Nat -> Prop} {N : Nat} {σ : St} {g : Gh} {a : Act} {w : World} (h : Rel n0 N σ g a w) (d : Option Nat) {x : V} {v : Value} (hv : VR σ g w x v) (hd : ∀ i, d = some i -> i < N) : Rel n0 N (σ.put d x) g (a.put d v) w := by
 cases d with
 | none => exact h
 | some i =>
  have hi := hd i rfl
  refine h.slots_of rfl rfl h.defers (by simp [Act.put, h.size]) fun j => ?_
  show VR σ g w (upd σ.sl i x j) _
  unfold upd
  simp only [Act.put]
  split
  ·subst j; rw [zko h.size hi]; exact hv
  ·rw [zgw a ‹_›]; exact h.slots j
theorem znq (σ : St) (g : Gh) (w : World) (s : Nat) (v : Value) : CR σ g w (zie s v) v := by
 unfold zie
 split
 ·split
  ·rename_i h; simp only [CR, zai]; exact ⟨trivial, h.1, h.2⟩
  ·rfl
 ·simp only [CR, zai]
 ·split
  ·rename_i h; simp only [CR, zai]; exact ⟨by simp, by simpa using h⟩
  ·rfl
 ·rfl
 ·rfl
theorem zp2 (σ : St) (g : Gh) (w : World) (f : Nat -> Nat) (vs : List Value) (i : Nat) : CRs σ g w ((vs.zipIdx i).map fun (v, i) => zie (f i) v) vs := by
 induction vs generalizing i with
 | nil => rfl
 | cons v vs ih => exact ⟨v, vs, rfl, znq σ g w _ v, ih (i + 1)⟩
theorem ofV_vr (P : Program) (σ : St) (g : Gh) (w : World) (t : TypeId) (v : Value) : VR σ g w (ofV P t v) v := by
 unfold ofV
 split
 ·rename_i cs
  exact ⟨cs.toList, by simp, zp2 σ g w (fun i => (nlsT P 6 t).getD i 0) cs.toList 0⟩
 ·exact znq σ g w _ v
theorem Rel.get {n0 : Nat -> Prop} {N : Nat} {σ : St} {g : Gh} {a : Act} {w : World} (P : Program) (h : Rel n0 N σ g a w) (t : TypeId) (x : Operand) : VR σ g w (σ.get P t x) (a.eval x) := by
 cases x with
 | tmp i =>
  show VR σ g w (if i < 1000000 then σ.sl i else .one .any) _
  split
  ·exact h.slot_at ‹_›
  ·trivial
 | const v => exact ofV_vr P σ g w t v
 | global _ => trivial
 | func f => exact ⟨rfl, fun b hb => by simp at hb⟩
theorem Rel.sliceOf {n0 : Nat -> Prop} {N : Nat} {σ : St} {g : Gh} {a : Act} {w : World} (h : Rel n0 N σ g a w) {e : Nat} {x : Ev} (he : σ.ev e = some x) (hne : x.rows ≠ []) : ∃ b cap, g.ψ e x.gen = .slice (some ⟨b, 0, none⟩) x.rows.length cap := by
 cases ho : x.on with
 | true =>
  obtain ⟨ao, cap, e1, e2, e3, e4⟩ := h.evs e x he ho
  rcases e4 with ⟨_, _, e4, _⟩ | ⟨b', cells, ty, fps, e5, _⟩
  ·exact absurd e4 hne
  ·exact ⟨b', cap, by rw [e1, e5]⟩
 | false =>
  obtain ⟨h1, h2⟩ := h.offs e x he ho
  unfold zai at h1
  obtain ⟨ao, cap, e1, e2, e3, e4⟩ := h1
  rcases e4 with e4 | ⟨b', o, e5, e6, e7⟩
  ·exact absurd e4 hne
  ·rw [e5] at e1
   obtain ⟨rfl, _⟩ := h2 _ _ _ _ _ e1
   exact ⟨b', cap, e1⟩
theorem Rel.sliceAny {n0 : Nat -> Prop} {N : Nat} {σ : St} {g : Gh} {a : Act} {w : World} (h : Rel n0 N σ g a w) {e : Nat} {x : Ev} (he : σ.ev e = some x) : ∃ ao cap, g.ψ e x.gen = .slice ao x.rows.length cap /\ x.rows.length <= cap /\ cap <= zds := by
 cases ho : x.on with
 | true =>
  obtain ⟨ao, cap, e1, e2, e3, e4⟩ := h.evs e x he ho
  exact ⟨ao, cap, e1, e2, e3⟩
 | false =>
  have h1 := (h.offs e x he ho).1
  unfold zai at h1
  obtain ⟨ao, cap, e1, e2, e3, e4⟩ := h1
  exact ⟨ao, cap, e1, e2, e3⟩
theorem zyd {σ : St} {g : Gh} {w : World} {x : T} {v : Value} (h : zai w (zbr σ g w) x v) : CR σ g w x.toN v := by
 cases x <;> first | exact h | (unfold zai at h; show zai _ _ _ _; unfold zai; exact h)
theorem Rel.at {n0 : Nat -> Prop} {N : Nat} {σ : St} {g : Gh} {a : Act} {w : World} (h : Rel n0 N σ g a w) {x : V} {v : Value} (hv : VR σ g w x v) {cs : List C} {o : Nat} (ha : σ.at x = some (cs, o)) :
  ∃ b q, v = .pointer (some ⟨b, q + o, none⟩) /\ ∀ (j : Nat) c, cs[j]? = some c -> ∃ u, w.cell? ⟨b, q + j, none⟩ = some u /\ CR σ g w c u := by
 unfold St.at at ha
 split at ha
 ·rename_i b o'
  simp only [VR, CR] at hv
  cases hb : σ.bx b with
  | none => rw [hb] at ha; simp at ha
  | some cs' =>
   rw [hb] at ha
   simp only [Option.map_some, Option.some.injEq, Prod.mk.injEq] at ha
   obtain ⟨rfl, rfl⟩ := ha
   obtain ⟨vs, ty, k1, k2⟩ := h.boxes b cs' hb
   refine ⟨g.β b, 0, by simpa using hv.1, fun j c hj => ?_⟩
   obtain ⟨u, k3, k4⟩ := k2.at j c hj
   exact ⟨u, by simpa [World.cell?, k1] using k3, k4⟩
 ·simp only [Option.some.injEq, Prod.mk.injEq] at ha
  obtain ⟨rfl, rfl⟩ := ha
  obtain ⟨b, q, k1, k2, k3⟩ := hv
  refine ⟨b, q, k1, fun j c hj => ?_⟩
  rw [List.getElem?_map] at hj
  cases hc : ‹List T›[j]? with
  | none => rw [hc] at hj; simp at hj
  | some t =>
   rw [hc] at hj
   simp only [Option.map_some, Option.some.injEq] at hj
   subst hj
   exact k3.at j t hc
 ·simp only [Option.some.injEq, Prod.mk.injEq] at ha
  obtain ⟨rfl, rfl⟩ := ha
  obtain ⟨b, q, k1, k2, k3⟩ := hv
  refine ⟨b, q, k1, fun j c hj => ?_⟩
  rw [List.getElem?_map] at hj
  cases hc : ‹List T›[j]? with
  | none => rw [hc] at hj; simp at hj
  | some t =>
   rw [hc] at hj
   simp only [Option.map_some, Option.some.injEq] at hj
   subst hj
   obtain ⟨u, q1, q2⟩ := k3.at j t hc
   exact ⟨u, q1, zyd q2⟩
 ·simp only [Option.some.injEq, Prod.mk.injEq] at ha
  obtain ⟨rfl, rfl⟩ := ha
  simp only [VR, CR, zai] at hv
  obtain ⟨b, q, k1, k2, k3⟩ := hv
  refine ⟨b, q, k1, fun j c hj => ?_⟩
  rw [List.getElem?_map] at hj
  cases hc : ‹List T›[j]? with
  | none => rw [hc] at hj; simp at hj
  | some t =>
   rw [hc] at hj
   simp only [Option.map_some, Option.some.injEq] at hj
   subst hj
   exact k3.at j t hc
 ·rename_i e s sz i o'
  obtain ⟨b, n, c, k2, k3, k4, k5⟩ := hv
  cases k1 : σ.ev e with
  | none => obtain ⟨x, hx, _⟩ := k5; exact absurd (k1.symm.trans hx) (by simp)
  | some x =>
   rw [k1] at ha
   simp only [Option.bind_some] at ha
   split at ha
   ·rename_i hgen
    simp only [Option.some.injEq, Prod.mk.injEq] at ha
    obtain ⟨rfl, rfl⟩ := ha
    obtain ⟨rfl, rfl⟩ := hgen
    have hrows : n = x.rows.length /\ zak w (Fix σ g w) b 0 x.sz x.rows := by
     cases ho : x.on with
     | true =>
      obtain ⟨ao, cap, e1, e2, e3, e4⟩ := h.evs e x k1 ho
      rw [k2] at e1
      injection e1 with e1 e1' e1''
      subst e1
      rcases e4 with ⟨e4, _⟩ | ⟨b', cells, ty, fps, e5, e6, e7, e8, e9⟩
      ·simp at e4
      ·simp only [Option.some.injEq, Addr.mk.injEq, and_true] at e5
       subst e5
       refine ⟨e1', ?_⟩
       split at e9
       ·refine zag.rep b cells ty e7 0 x.sz x.rows fps e9 fun b' hb' => h.fixes k1 ho ?_ ?_
        ·rw [e6]; exact hb'
        ·exact zag.lt cells 0 x.sz x.rows fps e9 b' hb'
       ·exact e9.2
     | false =>
      have := (h.offs e x k1 ho).1
      unfold zai at this
      obtain ⟨ao, cap, e1, e2, e3, e4⟩ := this
      rw [k2] at e1
      injection e1 with e1 e1' e1''
      subst e1
      refine ⟨e1', ?_⟩
      rcases e4 with e4 | ⟨b', o, e5, e6, e7⟩
      ·rw [e4]; unfold zak; trivial
      ·simp only [Option.some.injEq, Addr.mk.injEq, and_true] at e5
       obtain ⟨rfl, rfl⟩ := e5
       exact e7
    obtain ⟨rfl, hR⟩ := hrows
    refine ⟨b, i * x.sz, k3, fun j c hj => ?_⟩
    have hrow : x.rows[i]? = some x.rows[i] := by simp [k4]
    have hA := (hR.at i _ hrow).2
    have hg : x.rows.getD i [] = x.rows[i] := by simp [List.getD, k4]
    rw [hg, List.getElem?_map] at hj
    cases hc : (x.rows[i])[j]? with
    | none => rw [hc] at hj; simp at hj
    | some t =>
     rw [hc] at hj
     simp only [Option.map_some, Option.some.injEq] at hj
     subst hj
     obtain ⟨u, u1, u2⟩ := hA.at j t hc
     exact ⟨u, by simpa using u1, u2⟩
   ·cases ha
 ·cases ha
end Go.Proofs.YtaaniggpnljckaaGreat
namespace Go.Proofs.YtaaniggpnljckaaGreat
set_option linter.unusedSimpArgs false
set_option linter.unusedVariables false
set_option linter.unusedSectionVars false
set_option maxRecDepth 4000
open Go.RowKit
variable {P : Program}
theorem zae.value {o : Oper} {σ : St} {x : V} (h : ∀ n0 N g a w, Rel n0 N σ g a w -> ∃ v, (execOp a.eval o).run P w = .ok (.value v) w /\ VR σ g w x v) : zae P o σ (σ.put o.dst x) := by
 intro n0 N g a w hR _ hd
 obtain ⟨v, h1, h2⟩ := h n0 N g a w hR
 unfold Oper.wp
 rw [h1]
 exact ⟨g, hR.put o.dst h2 hd, Bk.refl _ _, rfl, rfl⟩
theorem zb0 {σ σ' : St} {d : Option Nat} {v : Option V} {p : Prop} (h : σ.out d v = some (p, σ')) : ∃ x, v = some x /\ σ' = σ.put d x := by
 unfold St.out at h
 cases v with
 | none => simp at h
 | some x => simp only [Option.map_some, Option.some.injEq, Prod.mk.injEq] at h; exact ⟨x, rfl, h.2.symm⟩
theorem qhh {σ σ' : St} {d : Option Nat} {v : Option (Prop × C)} {p : Prop} (h : σ.outP d v = some (p, σ')) : ∃ x, v = some (p, x) /\ σ' = σ.put d (.one x) := by
 unfold St.outP at h
 cases v with
 | none => simp at h
 | some x => simp only [Option.map_some, Option.some.injEq, Prod.mk.injEq] at h; exact ⟨x.2, by rw [<- h.1], h.2.symm⟩
theorem zff {t : TypeId} {b : Bool} (h : znj P t = some b) (w : World) : (isAgg t).run P w = .ok b w := by
 unfold znj at h
 cases hu : P.underlying t with
 | none => rw [hu] at h; simp at h
 | some d =>
  rw [hu] at h
  simp only [Option.map_some, Option.some.injEq] at h
  subst h
  simp only [isAgg, Sem.run_bind, run_underlying hu, Result.andThen]
  cases d <;> rfl
theorem zbo {t : TypeId} {n : Nat} (h : zbc P t = some n) (w : World) : (sizeOf t).run P w = .ok n w := by
 unfold zbc at h
 cases hi : P.info? t with
 | none => rw [hi] at h; simp at h
 | some i =>
  rw [hi] at h
  simp only [Option.map_some, Option.some.injEq] at h
  subst h
  simp [sizeOf, typeInfo, hi]
theorem zdt (b o n : Nat) : (⟨b, o, none⟩ : Addr).add n = ⟨b, o + n, none⟩ := by
 unfold Addr.add
 split <;> simp_all
theorem zqx {σ : St} {g : Gh} {w : World} {t : TypeId} {cs : List C} {o : Nat} {x : V} {b q : Nat} (h : ldC P t cs o = some x)
  (hc : ∀ (j : Nat) c, cs[j]? = some c -> ∃ u, w.cell? ⟨b, q + j, none⟩ = some u /\ CR σ g w c u) : ∃ v, (loadVar t ⟨b, q + o, none⟩).run P w = .ok v w /\ VR σ g w x v := by
 unfold ldC at h
 split at h
 ·rename_i ha
  cases hn : zbc P t with
  | none => rw [hn] at h; simp at h
  | some n =>
   rw [hn] at h
   simp only [Option.bind_some] at h
   split at h
   ·rename_i hle
    simp only [Option.some.injEq] at h
    subst h
    have key : ∃ vs : List Value, vs.length = n /\ (∀ j u, vs[j]? = some u -> w.cell? ⟨b, q + o + j, none⟩ = some u) /\ CRs σ g w ((cs.drop o).take n) vs := by
     have hx : ∀ j, ∃ u, j < n -> w.cell? ⟨b, q + o + j, none⟩ = some u /\ ∀ c, cs[o + j]? = some c -> CR σ g w c u := fun j => by
      by_cases hj : j < n
      ·have hlt : o + j < cs.length := by omega
       obtain ⟨u, u1, u2⟩ := hc (o + j) cs[o + j] (by simp [hlt])
       refine ⟨u, fun _ => ⟨by rw [Nat.add_assoc]; exact u1, fun c hcc => ?_⟩⟩
       rw [List.getElem?_eq_getElem hlt, Option.some.injEq] at hcc
       exact hcc ▸ u2
      ·exact ⟨undef, fun h => absurd h hj⟩
     refine ⟨(List.range n).map fun j => (hx j).choose, by simp, fun j u hu => ?_, CRs.mk (by simp; omega) fun j c v h1 h2 => ?_⟩
     ·rw [List.getElem?_map] at hu
      by_cases hj : j < n
      ·rw [List.getElem?_range hj] at hu
       simp only [Option.map_some, Option.some.injEq] at hu
       rw [<- hu]
       exact ((hx j).choose_spec hj).1
      ·rw [List.getElem?_eq_none (by simp; omega)] at hu; simp at hu
     ·rw [List.getElem?_map] at h2
      rw [List.getElem?_take] at h1
      split at h1
      ·rename_i hj
       rw [List.getElem?_drop] at h1
       rw [List.getElem?_range hj] at h2
       simp only [Option.map_some, Option.some.injEq] at h2
       rw [<- h2]
       exact ((hx j).choose_spec hj).2 c h1
      ·cases h1
    obtain ⟨vs, k1, k2, k3⟩ := key
    refine ⟨.agg ⟨vs⟩, ?_, vs, rfl, k3⟩
    have hl := run_loadCells_list (P := P) w ⟨b, q + o, none⟩ vs (fun j u hu => by rw [zdt]; exact k2 j u hu)
    rw [k1] at hl
    simp only [loadVar, Sem.run_bind, zff ha, Result.andThen, if_true, zbo hn, hl]
    rfl
   ·cases h
 ·rename_i ha
  cases hcc : cs[o]? with
  | none => rw [hcc] at h; simp at h
  | some c =>
   rw [hcc] at h
   simp only [Option.map_some, Option.some.injEq] at h
   subst h
   obtain ⟨u, u1, u2⟩ := hc o c hcc
   refine ⟨u, ?_, u2⟩
   simp only [loadVar, Sem.run_bind, zff ha, Result.andThen, Bool.false_eq_true, if_false, run_load, u1]
 ·cases h
theorem I64.wrap (k : IntKind) (n : Int) : k.min <= k.wrap n /\ k.wrap n <= k.max := by
 cases k <;> simp [IntKind.wrap, IntKind.min, IntKind.max, IntKind.bits, IntKind.signed] <;> (try split) <;> omega
theorem qbq {o : Oper} {σ : St} {t : TypeId} {x : Operand} {cs : List C} {q : Nat} {v : V} (ho : o.op = .load t x) (h1 : σ.at (σ.get P 0 x) = some (cs, q)) (h2 : ldC P t cs q = some v) : zae P o σ (σ.put o.dst v) :=
 zae.value fun n0 N g a w hR => by
  obtain ⟨b, k, e1, e2⟩ := hR.at (hR.get P 0 x) h1
  obtain ⟨u, u1, u2⟩ := zqx h2 e2
  refine ⟨u, ?_, u2⟩
  unfold execOp
  simp only [ho]
  simp only [Instr.loadAt, e1, Instr.sureAddr, Sem.run_bind, Sem.run_pure, Result.andThen, u1]
theorem ze6 {σ : St} {g : Gh} {w : World} (k : IntKind) (n : Int) : CR σ g w (.t (.int k (k.wrap n))) (.int k (k.wrap n)) := by
 simp only [CR, zai]; exact ⟨trivial, (I64.wrap k _).1, (I64.wrap k _).2⟩
theorem zcc {σ : St} {g : Gh} {w : World} (b : Bool) : CR σ g w (.t (.bool b)) (.bool b) := by
 simp only [CR, zai]
theorem qc8 {op : BinOp} {k : IntKind} {m n : Int} {p : Prop} {c : C} (h : binI op k m n = some (p, c)) (hp : p) (t : TypeId) (w : World) (σ : St) (g : Gh) :
  ∃ v, (binOp op t (.int k m) (.int k n)).run P w = .ok v w /\ CR σ g w c v := by
 unfold binI at h
 cases op <;> simp only [Option.some.injEq, Prod.mk.injEq, reduceCtorEq] at h
 all_goals obtain ⟨rfl, rfl⟩ := h
 ·exact ⟨.int k (k.wrap (m + n)), by simp [binOp, Op.intArith], ze6 _ _⟩
 ·exact ⟨.int k (k.wrap (m - n)), by simp [binOp, Op.intArith], ze6 _ _⟩
 ·exact ⟨.int k (k.wrap (m * n)), by simp [binOp, Op.intArith], ze6 _ _⟩
 ·exact ⟨.int k (k.wrap (m.tdiv n)), by simp [binOp, Op.intDiv, hp], ze6 _ _⟩
 ·exact ⟨.int k (m.tmod n), by simp [binOp, Op.intDiv, hp.1], by simp only [CR, zai]; exact ⟨trivial, hp.2.1, hp.2.2⟩⟩
 ·exact ⟨_, by simp [binOp, Op.intBits], ze6 _ _⟩
 ·exact ⟨_, by simp [binOp, Op.intBits], ze6 _ _⟩
 ·exact ⟨_, by simp [binOp, Op.intBits], ze6 _ _⟩
 ·exact ⟨.bool (m == n), by simp [binOp, Op.intCmp], zcc _⟩
 ·exact ⟨.bool (m != n), by simp [binOp, Op.intCmp], zcc _⟩
 ·exact ⟨.bool (decide (m < n)), by simp [binOp, Op.intCmp], zcc _⟩
 ·exact ⟨.bool (decide (m <= n)), by simp [binOp, Op.intCmp], zcc _⟩
 ·exact ⟨.bool (decide (m > n)), by simp [binOp, Op.intCmp], zcc _⟩
 ·exact ⟨.bool (decide (m >= n)), by simp [binOp, Op.intCmp], zcc _⟩
theorem ztf (a : List UInt8) : (⟨a.toArray⟩ : ByteArray).toList = a := by
 exact ByteArray.toList_mk a
theorem qa2 {op : BinOp} {m n : List UInt8} {p : Prop} {c : C} (h : binS op m n = some (p, c)) (hp : p) (t : TypeId) (w : World) (σ : St) (g : Gh) :
  ∃ v, (binOp op t (.string ⟨m.toArray⟩) (.string ⟨n.toArray⟩)).run P w = .ok v w /\ CR σ g w c v := by
 unfold binS at h
 cases op <;> simp only [Option.some.injEq, Prod.mk.injEq, reduceCtorEq] at h
 all_goals obtain ⟨rfl, rfl⟩ := h
 all_goals simp only [binOp, Op.stringOp, ztf]
 ·have hs : ¬ ((((⟨m.toArray⟩ : ByteArray).size + (⟨n.toArray⟩ : ByteArray).size : Nat) : Int) > IntKind.i64.max) := by
   have h1 : (⟨m.toArray⟩ : ByteArray).size = m.length := by simp [ByteArray.size]
   have h2 : (⟨n.toArray⟩ : ByteArray).size = n.length := by simp [ByteArray.size]
   have hp' : m.length + n.length <= 9223372036854775807 := hp
   rw [h1, h2, IntKind.max_i64]
   omega
  refine ⟨.string ⟨(m ++ n).toArray⟩, ?_, ?_⟩
  ·rw [if_neg hs]
   simp only [Sem.run_pure]
   congr 2
  ·simp only [CR, zai]; exact ⟨trivial, by simpa using hp⟩
 ·exact ⟨.bool (m == n), by simp [Sem.run], zcc _⟩
 ·exact ⟨.bool (!(m == n)), by simp [Sem.run], zcc _⟩
 ·exact ⟨.bool (Op.bytesLess m n), by simp [Sem.run], zcc _⟩
 ·exact ⟨.bool (Op.bytesLess m n || m == n), by simp [Sem.run], zcc _⟩
 ·exact ⟨.bool (!(Op.bytesLess m n || m == n)), by simp [Sem.run], zcc _⟩
 ·exact ⟨.bool (!(Op.bytesLess m n)), by simp [Sem.run], zcc _⟩
theorem zch (op : BinOp) (t : TypeId) (x y : Operand) (a b : Value) (w : World) (h : ∀ v, a ≠ .agg v) (h2 : a ≠ .nilIface) : (eqGuard op t x y a b).run P w = .ok () w := by
 unfold eqGuard
 cases a <;> first
  | exact absurd rfl h2
  | exact absurd rfl (h _)
  | (split <;> first | rfl | (split <;> rfl))
theorem zid {op : BinOp} {t : TypeId} (ht : zu6 P t = true) (a b : Bool) (w : World) (hop : op = .eql \/ op = .neq) :
  (binOp op t (.bool a) (.bool b)).run P w = .ok (.bool (if op = .eql then a == b else !(a == b))) w := by
 unfold zu6 at ht
 split at ht
 ·rename_i hu
  have key : (Op.equal t (.bool a) (.bool b)).run P w = .ok (a == b) w := by
   unfold Op.equal
   rw [show Op.maxDepth = 9999 + 1 from rfl, Op.equalIn]
   simp only [Sem.run_bind, run_underlying hu, Result.andThen]
   rfl
  rcases hop with rfl | rfl
  ·show ((do pure (.bool (<- Op.equal t (.bool a) (.bool b))) : Sem Value)).run P w = _
   simp only [Sem.run_bind, key, Result.andThen, Sem.run_pure, if_true]
  ·show ((do pure (.bool (!(<- Op.equal t (.bool a) (.bool b)))) : Sem Value)).run P w = _
   simp only [Sem.run_bind, key, Result.andThen, Sem.run_pure, reduceCtorEq, if_false]
 ·cases ht
theorem qhw {op : BinOp} {t : TypeId} {x y : V} {p : Prop} {c : C} (h : bin P op t x y = some (p, c)) (hp : p) {σ : St} {g : Gh} {w : World} {u v : Value} (hu : VR σ g w x u) (hv : VR σ g w y v) (ox oy : Operand) :
  ∃ r, (eqGuard op t ox oy u v).run P w = .ok () w /\ (binOp op t u v).run P w = .ok r w /\ CR σ g w c r := by
 unfold bin at h
 split at h
 ·split at h
  ·simp only [Option.some.injEq, Prod.mk.injEq] at h
   obtain ⟨rfl, rfl⟩ := h
   simp only [VR, CR, zai] at hu hv
   obtain ⟨rfl, _⟩ := hu
   obtain ⟨rfl, _⟩ := hv
   exact ⟨_, zch _ _ _ _ _ _ _ (by simp) (by simp), by simp only [binOp, Op.shift]; rw [if_neg (by omega)]; rfl, ze6 _ _⟩
  ·simp only [Option.some.injEq, Prod.mk.injEq] at h
   obtain ⟨rfl, rfl⟩ := h
   simp only [VR, CR, zai] at hu hv
   obtain ⟨rfl, _⟩ := hu
   obtain ⟨rfl, _⟩ := hv
   exact ⟨_, zch _ _ _ _ _ _ _ (by simp) (by simp), by simp only [binOp, Op.shift]; rw [if_neg (by omega)]; rfl, by simp only [CR, zai]; exact ⟨trivial, hp.2.1, hp.2.2⟩⟩
  ·split at h
   ·subst_vars
    simp only [VR, CR, zai] at hu hv
    obtain ⟨rfl, _⟩ := hu
    obtain ⟨rfl, _⟩ := hv
    obtain ⟨r, r1, r2⟩ := qc8 h hp t w σ g
    exact ⟨r, zch _ _ _ _ _ _ _ (by simp) (by simp), r1, r2⟩
   ·cases h
 ·simp only [VR, CR, zai] at hu hv
  obtain ⟨rfl, _⟩ := hu
  obtain ⟨rfl, _⟩ := hv
  obtain ⟨r, r1, r2⟩ := qa2 h hp t w σ g
  exact ⟨r, zch _ _ _ _ _ _ _ (by simp) (by simp), r1, r2⟩
 ·simp only [VR, CR, zai] at hu hv
  subst hu hv
  split at h
  ·split at h
   ·simp only [Option.some.injEq, Prod.mk.injEq] at h
    obtain ⟨rfl, rfl⟩ := h
    exact ⟨_, zch _ _ _ _ _ _ _ (by simp) (by simp), zid ‹_› _ _ w (Or.inl rfl), zcc _⟩
   ·cases h
  ·split at h
   ·simp only [Option.some.injEq, Prod.mk.injEq] at h
    obtain ⟨rfl, rfl⟩ := h
    exact ⟨_, zch _ _ _ _ _ _ _ (by simp) (by simp), zid ‹_› _ _ w (Or.inr rfl), zcc _⟩
   ·cases h
  ·cases h
 ·cases h
theorem qfp {o : Oper} {σ : St} {op : BinOp} {t t' : TypeId} {x y : Operand} {p : Prop} {c : C} (ho : o.op = .binOp op t x y t') (h : bin P op t (σ.get P t x) (σ.get P t y) = some (p, c)) (hp : p) : zae P o σ (σ.put o.dst (.one c)) :=
 zae.value fun n0 N g a w hR => by
  obtain ⟨r, r1, r2, r3⟩ := qhw h hp (hR.get P t x) (hR.get P t y) x y
  refine ⟨r, ?_, r3⟩
  unfold execOp
  simp only [ho]
  simp only [Sem.run_bind, r1, r2, Result.andThen, Sem.run_pure]
theorem sem_un {o : Oper} {σ : St} {op : UnOp} {t : TypeId} {x : Operand} {c : C} (ho : o.op = .unOp op t x) (h : un op (σ.get P o.type x) = some c) : zae P o σ (σ.put o.dst (.one c)) :=
 zae.value fun n0 N g a w hR => by
  have hv := hR.get P o.type x
  unfold un at h
  split at h
  ·rename_i b hx
   split at h
   ·cases h
    rw [hx] at hv
    simp only [VR, CR, zai] at hv
    refine ⟨.bool !b, ?_, by simp only [VR, CR, zai]⟩
    unfold execOp
    simp only [ho]
    simp [hv, Op.unary]
   ·cases h
  ·rename_i k n hx
   split at h
   ·cases h
    rw [hx] at hv
    simp only [VR, CR, zai] at hv
    refine ⟨.int k (k.wrap (0 - n)), ?_, show CR σ g w _ _ from ze6 _ _⟩
    unfold execOp
    simp only [ho]
    simp [hv.1, Op.unary, Op.intArith]
   ·cases h
  ·cases h
theorem CRt.at {σ : St} {g : Gh} {w : World} : ∀ {xs : List (Bool × List C)} {vs : List Value}, CRt σ g w xs vs -> ∀ (j : Nat) x, xs[j]? = some x -> ∃ v, vs[j]? = some v /\ CRx σ g w x v
 | [], _, _, j, c, h => by simp at h
 | d :: cs, vs, h, 0, c, hj => by
  obtain ⟨v, vs', rfl, h1, _⟩ := h
  simp only [List.getElem?_cons_zero, Option.some.injEq] at hj
  subst hj
  exact ⟨v, rfl, h1⟩
 | d :: cs, vs, h, j + 1, c, hj => by
  obtain ⟨v, vs', rfl, _, h2⟩ := h
  simpa using CRt.at h2 j c (by simpa using hj)
theorem zoz {o : Oper} {σ : St} {x : Operand} {i : Nat} {xs : List (Bool × List C)} {v : V} (ho : o.op = .extract x i) (h1 : σ.get P 0 x = .tup xs)
  (h : ((xs[i]?).bind fun (a, cs) => if a = true then some (.agg cs) else match cs with | [c] => some (.one c) | _ => none) = some v) : zae P o σ (σ.put o.dst v) :=
 zae.value fun n0 N g a w hR => by
  have hv := hR.get P 0 x
  rw [h1] at hv
  obtain ⟨vs, k1, k2⟩ := hv
  cases hx : xs[i]? with
  | none => rw [hx] at h; simp at h
  | some y =>
   obtain ⟨b, cs⟩ := y
   rw [hx] at h
   simp only [Option.bind_some] at h
   obtain ⟨u, u1, u2⟩ := k2.at i _ hx
   refine ⟨u, ?_, ?_⟩
   ·unfold execOp
    simp only [ho]
    simp [k1, Instr.extract, u1]
   ·unfold CRx at u2
    split at h
    ·cases h
     rw [if_pos ‹_›] at u2
     exact u2
    ·rw [if_neg ‹_›] at u2
     obtain ⟨c, c1, c2⟩ := u2
     simp only at c1
     subst c1
     cases h
     exact c2
end Go.Proofs.YtaaniggpnljckaaGreat
namespace Go.Proofs.YtaaniggpnljckaaGreat
set_option linter.unusedSimpArgs false
set_option linter.unusedVariables false
set_option linter.unusedSectionVars false
set_option maxRecDepth 4000
open Go.RowKit
variable {P : Program}
theorem zvp {t : TypeId} {f q : Nat} {ft : TypeId} (h : zj8 P t f = some (q, ft)) : ∃ fs x, P.underlying t = some (.struct fs) /\ fs[f]? = some x /\ x.offset = q /\ x.type = ft := by
 unfold zj8 at h
 split at h
 ·rename_i fs hu
  cases hx : fs[f]? with
  | none => rw [hx] at h; simp at h
  | some x =>
   rw [hx] at h
   simp only [Option.map_some, Option.some.injEq, Prod.mk.injEq] at h
   exact ⟨fs, x, hu, hx, h.1, h.2⟩
 ·cases h
theorem zcb {o : Oper} {t : TypeId} {f q : Nat} {ft : TypeId} {x : Operand} {n : Nat} (ho : o.op = .fieldAddr t x f) (h : zj8 P t f = some (q, ft)) (hn : zbc P ft = some n) (hn0 : n ≠ 0) {a : Act} {w : World} {b k : Nat} (hv : a.eval x = .pointer (some ⟨b, k, none⟩)) :
  (execOp a.eval o).run P w = .ok (.value (.pointer (some ⟨b, k + q, none⟩))) w := by
 obtain ⟨fs, y, h1, h2, h3, h4⟩ := zvp h
 subst h3 h4
 unfold execOp
 simp only [ho]
 simp only [Instr.fieldAt, Sem.run_bind, run_underlying h1, Result.andThen, h2, hv, Instr.sureAddr, Sem.run_pure, fieldPlace, zbo hn, if_neg hn0, zdt]
theorem zk8 {o : Oper} {σ σ' : St} {t : TypeId} {f q : Nat} {ft : TypeId} {x : Operand} {n : Nat} {p : Prop} (ho : o.op = .fieldAddr t x f) (h : zj8 P t f = some (q, ft)) (hn : zbc P ft = some n) (hn0 : n ≠ 0)
  (hs : (match σ.get P 0 x with
  | .one (.bx b p) => σ.out o.dst (some (.one (.bx b (p + q))))
  | .one (.el cs p) => σ.out o.dst (some (.one (.el cs (p + q))))
  | .one (.er cs p) => σ.out o.dst (some (.one (.er cs (p + q))))
  | .one (.eo e g z i p) => σ.out o.dst (some (.one (.eo e g z i (p + q))))
  | .one (.t (.ptr cs)) => σ.out o.dst (some (.one (.el cs q)))
  | _ => none) = some (p, σ')) : zae P o σ σ' := by
 split at hs
 ·rename_i b k hx
  obtain ⟨y, hy, rfl⟩ := zb0 hs
  cases hy
  refine zae.value fun n0 N g a w hR => ?_
  have hv := hR.get P 0 x
  rw [hx] at hv
  obtain ⟨v1, v2⟩ := hv
  exact ⟨_, zcb ho h hn hn0 v1, rfl, v2⟩
 ·rename_i cs k hx
  obtain ⟨y, hy, rfl⟩ := zb0 hs
  cases hy
  refine zae.value fun n0 N g a w hR => ?_
  have hv := hR.get P 0 x
  rw [hx] at hv
  obtain ⟨b, r, v1, v2⟩ := hv
  exact ⟨_, zcb ho h hn hn0 v1, b, r, by rw [Nat.add_assoc], v2⟩
 ·rename_i cs k hx
  obtain ⟨y, hy, rfl⟩ := zb0 hs
  cases hy
  refine zae.value fun n0 N g a w hR => ?_
  have hv := hR.get P 0 x
  rw [hx] at hv
  obtain ⟨b, r, v1, v2⟩ := hv
  exact ⟨_, zcb ho h hn hn0 v1, b, r, by rw [Nat.add_assoc], v2⟩
 ·rename_i e s z i k hx
  obtain ⟨y, hy, rfl⟩ := zb0 hs
  cases hy
  refine zae.value fun n0 N g a w hR => ?_
  have hv := hR.get P 0 x
  rw [hx] at hv
  obtain ⟨b, m, c, v1, v2, v3, v4⟩ := hv
  exact ⟨_, zcb ho h hn hn0 v2, b, m, c, v1, by rw [Nat.add_assoc], v3, v4⟩
 ·rename_i cs hx
  obtain ⟨y, hy, rfl⟩ := zb0 hs
  cases hy
  refine zae.value fun n0 N g a w hR => ?_
  have hv := hR.get P 0 x
  rw [hx] at hv
  simp only [VR, CR, zai] at hv
  obtain ⟨b, r, v1, v2⟩ := hv
  exact ⟨_, zcb ho h hn hn0 v1, b, r, rfl, v2⟩
 ·cases hs
theorem qaj {σ : St} {g : Gh} {w : World} {t : TypeId} {cs : List C} {o : Nat} {x : V} {vs : List Value} (h : ldC P t cs o = some x) (hc : CRs σ g w cs vs) :
  ∃ v, (part t ⟨vs⟩ o).run P w = .ok v w /\ VR σ g w x v := by
 unfold ldC at h
 split at h
 ·rename_i ha
  cases hn : zbc P t with
  | none => rw [hn] at h; simp at h
  | some n =>
   rw [hn] at h
   simp only [Option.bind_some] at h
   split at h
   ·cases h
    refine ⟨.agg ⟨(vs.drop o).take n⟩, ?_, _, rfl, (hc.drop o).take n⟩
    simp only [part, Sem.run_bind, zff ha, Result.andThen, if_true, zbo hn, Sem.run_pure]
    congr 2
    simp [List.drop_take]
   ·cases h
 ·rename_i ha
  cases hcc : cs[o]? with
  | none => rw [hcc] at h; simp at h
  | some c =>
   rw [hcc] at h
   cases h
   obtain ⟨u, u1, u2⟩ := hc.at o c hcc
   refine ⟨u, ?_, u2⟩
   have u1' : (⟨vs⟩ : Array Value)[o]? = some u := by simpa using u1
   simp only [part, Sem.run_bind, zff ha, Result.andThen, Bool.false_eq_true, if_false, u1', Sem.run_pure]
 ·cases h
theorem zy6 {o : Oper} {σ : St} {t : TypeId} {f q : Nat} {ft : TypeId} {x : Operand} {cs : List C} {v : V} (ho : o.op = .field t x f) (h : zj8 P t f = some (q, ft)) (hx : σ.get P t x = .agg cs) (hl : ldC P ft cs q = some v) : zae P o σ (σ.put o.dst v) :=
 zae.value fun n0 N g a w hR => by
  obtain ⟨fs, y, h1, h2, h3, h4⟩ := zvp h
  subst h3 h4
  have hv := hR.get P t x
  rw [hx] at hv
  obtain ⟨vs, v1, v2⟩ := hv
  obtain ⟨u, u1, u2⟩ := qaj hl v2
  refine ⟨u, ?_, u2⟩
  unfold execOp
  simp only [ho]
  simp only [Instr.field, Sem.run_bind, run_underlying h1, Result.andThen, h2, v1, asAgg, Sem.run_pure, u1]
theorem qd7 {t : TypeId} {n : Nat} (h : (elT P t).bind (zbc P) = some n) : ∃ e, P.underlying t = some (.slice e) /\ zbc P e = some n := by
 unfold elT at h
 split at h
 ·rename_i e hu; exact ⟨e, hu, by simpa using h⟩
 ·simp at h
theorem zc0 {o : Oper} {t : TypeId} {n : Nat} {x i : Operand} (ho : o.op = .indexAddr t x i) (h : (elT P t).bind (zbc P) = some n) {a : Act} {w : World} {b q len cap : Nat} {k : IntKind} {j : Int} (hv : a.eval x = .slice (some ⟨b, q, none⟩) len cap) (hi : a.eval i = .int k j) (h0 : 0 <= j) (hl : j < len) :
  (execOp a.eval o).run P w = .ok (.value (.pointer (some ⟨b, q + j.toNat * n, none⟩))) w := by
 obtain ⟨e, h1, h2⟩ := qd7 h
 unfold execOp
 simp only [ho]
 simp only [Instr.indexAt, Sem.run_bind, run_underlying h1, Result.andThen, hv, hi, asIntOf, Sem.run_pure, if_pos (And.intro h0 hl), zbo h2, zdt]
theorem zkt {o : Oper} {σ σ' : St} {t : TypeId} {n : Nat} {x i : Operand} {p : Prop} (ho : o.op = .indexAddr t x i) (h : (elT P t).bind (zbc P) = some n)
  (hs : (match σ.get P t x, σ.get P 0 i with
  | .one (.t (.sl sz rows)), .one (.t (.int _ k)) => some (sz = n /\ 0 <= k /\ k < rows.length, σ.put o.dst (.one (.el (rows.getD k.toNat []) 0)))
  | .one (.rn (.sl sz rows)), .one (.t (.int _ k)) => some (sz = n /\ 0 <= k /\ k < rows.length, σ.put o.dst (.one (.er (rows.getD k.toNat []) 0)))
  | .one (.ow e g), .one (.t (.int _ k)) => (σ.ev e).bind fun x => if x.gen = g then some (x.sz = n /\ 0 <= k /\ k < x.rows.length, σ.put o.dst (.one (.eo e g n k.toNat 0))) else none
  | .one (.vw e g z q), .one (.t (.int _ k)) => (σ.ev e).bind fun x => if x.gen = g then some (x.sz = n /\ z = n /\ 0 <= k /\ k + q < x.rows.length, σ.put o.dst (.one (.eo e g n (k.toNat + q) 0))) else none
  | _, _ => none) = some (p, σ')) (hp : p) : zae P o σ σ' := by
 split at hs
 ·rename_i sz rows kk k hx hi
  simp only [Option.some.injEq, Prod.mk.injEq] at hs
  obtain ⟨rfl, rfl⟩ := hs
  obtain ⟨rfl, h0, hl⟩ := hp
  refine zae.value fun n0 N g a w hR => ?_
  have hv := hR.get P t x
  have hw := hR.get P 0 i
  rw [hx] at hv
  rw [hi] at hw
  simp only [VR, CR, zai] at hv hw
  obtain ⟨ao, cap, v1, v2, v3, v4⟩ := hv
  have hlt : k.toNat < rows.length := by omega
  rcases v4 with rfl | ⟨b, q, rfl, v4, v5⟩
  ·simp at hlt
  ·have hrow : rows[k.toNat]? = some rows[k.toNat] := by simp [hlt]
   have hg : rows.getD k.toNat [] = rows[k.toNat] := by simp [List.getD, hlt]
   exact ⟨_, zc0 ho h v1 hw.1 h0 hl, b, q + k.toNat * sz, by simp, v4, by rw [hg]; exact (v5.at _ _ hrow).2⟩
 ·rename_i sz rows kk k hx hi
  simp only [Option.some.injEq, Prod.mk.injEq] at hs
  obtain ⟨rfl, rfl⟩ := hs
  obtain ⟨rfl, h0, hl⟩ := hp
  refine zae.value fun n0 N g a w hR => ?_
  have hv := hR.get P t x
  have hw := hR.get P 0 i
  rw [hx] at hv
  rw [hi] at hw
  simp only [VR, CR, zai] at hv hw
  obtain ⟨ao, cap, v1, v2, v3, v4⟩ := hv
  have hlt : k.toNat < rows.length := by omega
  rcases v4 with rfl | ⟨b, q, rfl, v4, v5⟩
  ·simp at hlt
  ·have hrow : rows[k.toNat]? = some rows[k.toNat] := by simp [hlt]
   have hg : rows.getD k.toNat [] = rows[k.toNat] := by simp [List.getD, hlt]
   exact ⟨_, zc0 ho h v1 hw.1 h0 hl, b, q + k.toNat * sz, by simp, v4, by rw [hg]; exact (v5.at _ _ hrow).2⟩
 ·rename_i e s kk k hx hi
  cases he : σ.ev e with
  | none => rw [he] at hs; simp at hs
  | some y =>
   rw [he] at hs
   simp only [Option.bind_some] at hs
   split at hs
   ·rename_i hgen
    simp only [Option.some.injEq, Prod.mk.injEq] at hs
    obtain ⟨rfl, rfl⟩ := hs
    obtain ⟨rfl, h0, hl⟩ := hp
    refine zae.value fun n0 N g a w hR => ?_
    have hv := hR.get P t x
    have hw := hR.get P 0 i
    rw [hx] at hv
    rw [hi] at hw
    obtain ⟨v1, v2⟩ := hv
    simp only [VR, CR, zai] at hw
    have hlt : k.toNat < y.rows.length := by omega
    obtain ⟨b, cap, e1⟩ := hR.sliceOf he (by intro h0; rw [h0] at hlt; simp at hlt)
    rw [hgen] at e1
    exact ⟨_, zc0 ho h (v1.trans e1) hw.1 h0 hl, b, _, _, e1, by simp, hlt, v2⟩
   ·cases hs
 ·rename_i e s z q kk k hx hi
  cases he : σ.ev e with
  | none => rw [he] at hs; simp at hs
  | some y =>
   rw [he] at hs
   simp only [Option.bind_some] at hs
   split at hs
   ·rename_i hgen
    simp only [Option.some.injEq, Prod.mk.injEq] at hs
    obtain ⟨rfl, rfl⟩ := hs
    obtain ⟨rfl, rfl, h0, hl⟩ := hp
    refine zae.value fun n0 N g a w hR => ?_
    have hv := hR.get P t x
    have hw := hR.get P 0 i
    rw [hx] at hv
    rw [hi] at hw
    obtain ⟨b', n', c', v1, v2, v3, v4⟩ := hv
    simp only [VR, CR, zai] at hw
    have hlt : k.toNat + q < y.rows.length := by omega
    obtain ⟨b, cap, e1⟩ := hR.sliceOf he (by intro h0; rw [h0] at hlt; simp at hlt)
    rw [hgen] at e1
    obtain ⟨rfl, rfl, rfl⟩ : b = b' /\ y.rows.length = n' /\ cap = c' := by
     have := e1.symm.trans v1
     simp only [Value.slice.injEq, Option.some.injEq, Addr.mk.injEq] at this
     exact ⟨this.1.1, this.2.1, this.2.2⟩
    exact ⟨_, zc0 ho h v2 hw.1 h0 (by omega), b, _, _, e1, by simp [Nat.add_mul, Nat.add_comm], hlt, v4⟩
   ·cases hs
 ·cases hs
theorem zgp {t : TypeId} (h : zzo P t = true) : P.underlying t = some .string := by
 unfold zzo at h
 split at h
 ·assumption
 ·cases h
theorem zwf {o : Oper} {σ σ' : St} {t : TypeId} {x i : Operand} {p : Prop} (ho : o.op = .index t x i)
  (hs : (match σ.get P t x, σ.get P 0 i with
  | .one (.t (.str s)), .one (.t (.int _ k)) => if zzo P t = true then some (0 <= k /\ k < s.length, σ.put o.dst (.one (.t (.int .u8 (s.getD k.toNat 0).toNat)))) else none
  | _, _ => none) = some (p, σ')) (hp : p) : zae P o σ σ' := by
 split at hs
 ·rename_i s kk k hx hi
  split at hs
  ·rename_i ht
   simp only [Option.some.injEq, Prod.mk.injEq] at hs
   obtain ⟨rfl, rfl⟩ := hs
   obtain ⟨h0, hl⟩ := hp
   refine zae.value fun n0 N g a w hR => ?_
   have hv := hR.get P t x
   have hw := hR.get P 0 i
   rw [hx] at hv
   rw [hi] at hw
   simp only [VR, CR, zai] at hv hw
   have hlt : k.toNat < s.length := by omega
   refine ⟨.int .u8 (s.getD k.toNat 0).toNat, ?_, ?_⟩
   ·have hb : (⟨s.toArray⟩ : ByteArray)[k.toNat]? = some s[k.toNat] := by
     have : k.toNat < (⟨s.toArray⟩ : ByteArray).size := by simpa [ByteArray.size] using hlt
     rw [getElem?_pos (⟨s.toArray⟩ : ByteArray) k.toNat this]
     rfl
    unfold execOp
    simp only [ho]
    simp only [Instr.index, Sem.run_bind, run_underlying (zgp ht), Result.andThen, hv.1, hw.1, asIntOf, Sem.run_pure, if_pos h0, hb]
    simp [List.getD, hlt]
   ·simp only [VR, CR, zai]
    refine ⟨trivial, ?_, ?_⟩
    ·simp [IntKind.min, IntKind.signed]
    ·have h1 := (s.getD k.toNat 0).toNat_lt
     have h2 : IntKind.max .u8 = 255 := by decide
     omega
  ·cases hs
 ·cases hs
theorem zgb {o : Oper} {σ : St} {asx : Array Operand} {ts : Array TypeId} {x : Operand} {t : TypeId} {n : Nat} (ho : o.op = .call ⟨.builtin .len, asx, ts⟩) (h1 : asx.toList = [x]) (h2 : ts.toList = [t])
  (hn : n <= zds) (h : ∀ n0 N g a w, Rel n0 N σ g a w -> (Builtin.len_ #[t] o.type #[a.eval x]).run P w = .ok (.int .i64 n) w) : zae P o σ (σ.put o.dst (.one (.t (.int .i64 n)))) :=
 zae.value fun n0 N g a w hR => by
  have e1 : asx = #[x] := by rw [<- Array.toArray_toList (xs := asx), h1]
  have e2 : ts = #[t] := by rw [<- Array.toArray_toList (xs := ts), h2]
  subst e1 e2
  refine ⟨.int .i64 n, ?_, ?_⟩
  ·unfold execOp
   simp only [ho]
   have hl := h n0 N g a w hR
   simp [resolve, invoke, builtin, hl]
  ·simp only [VR, CR, zai]
   refine ⟨trivial, ?_, ?_⟩
   ·have : IntKind.min .i64 = -9223372036854775808 := by decide
    omega
   ·have : IntKind.max .i64 = 9223372036854775807 := by decide
    unfold zds at hn
    omega
end Go.Proofs.YtaaniggpnljckaaGreat
namespace Go.Proofs.YtaaniggpnljckaaGreat
set_option linter.unusedSimpArgs false
set_option linter.unusedVariables false
set_option linter.unusedSectionVars false
set_option maxRecDepth 4000
open Go.RowKit
variable {P : Program}
theorem Rel.lt {n0 : Nat -> Prop} {N : Nat} {σ : St} {g : Gh} {a : Act} {w : World} (h : Rel n0 N σ g a w) {b : Nat} (hb : σ.bx b ≠ none) : g.β b < w.heap.size := by
 obtain ⟨cs, hc⟩ := Option.ne_none_iff_exists'.1 hb
 obtain ⟨vs, ty, k, _⟩ := h.boxes b cs hc
 exact (Array.getElem?_eq_some_iff.1 k).1
theorem EvR.lt {w : World} {A : Nat -> Prop} {x : Ev} {v : Value} {fp : List Nat} (h : EvR w A x v fp) : ∀ b ∈ fp, b < w.heap.size := by
 intro b hb
 obtain ⟨ao, cap, e1, e2, e3, e4⟩ := h
 rcases e4 with ⟨_, _, _, rfl⟩ | ⟨b', cells, ty, fps, _, rfl, e7, e8, e9⟩
 ·simp at hb
 ·rcases List.mem_cons.1 hb with rfl | hb
  ·exact (Array.getElem?_eq_some_iff.1 e7).1
  ·split at e9
   ·exact zag.lt cells 0 x.sz x.rows fps e9 b hb
   ·rw [e9.1] at hb; simp at hb
theorem Rel.newbox {n0 : Nat -> Prop} {N : Nat} {σ : St} {g : Gh} {a : Act} {w : World} (h : Rel n0 N σ g a w) (hn : LtK n0 w) {d : Nat} (hd : σ.bx d = none) {cs : List C} {vs : List Value} (hc : CRs σ g w cs vs) (ty : TypeId) :
  Rel n0 N { σ with bx := upd σ.bx d (some cs) } { g with β := upd g.β d w.heap.size } a (w.alloc (.cells ⟨vs⟩ ty)) := by
 have hb : ∀ b, σ.bx b ≠ none -> b ≠ d := fun b hb e => hb (e ▸ hd)
 have m : Mv σ { σ with bx := upd σ.bx d (some cs) } g { g with β := upd g.β d w.heap.size } w (w.alloc (.cells ⟨vs⟩ ty)) := by
  refine ⟨fun b hf => Below.heap_alloc _ _ _ hf.2.2.1, fun b hf => ⟨fun k hk => ?_, hf.2.1, ?_, hf.2.2.2⟩, fun b hbb => ?_, fun e _ he => ⟨he, rfl⟩, fun b hf => hf.2⟩
  ·simp only [upd] at hk ⊢
   by_cases hkd : k = d
   ·rw [if_pos hkd]; have := hf.2.2.1; omega
   ·rw [if_neg hkd] at hk ⊢; exact hf.1 k hk
  ·have := hf.2.2.1; simp; omega
  ·exact ⟨zah _ _ (hb b hbb), by show upd σ.bx d (some cs) b ≠ none; rw [zah _ _ (hb b hbb)]; exact hbb⟩
 refine ⟨h.defers, h.size, h.anew, fun i => m.vr (h.slots i), fun b cs' hbb => ?_, fun b hbb => ?_, fun b b' h1 h2 h3 => ?_, fun e x he ho => m.evr (h.evs e x he ho) fun b hb => Below.heap_alloc _ _ _ ((h.evs e x he ho).lt b hb), fun e x he ho => ⟨m.rep (h.offs e x he ho).1, (h.offs e x he ho).2⟩, h.slc, h.ebase, h.etop, h.nodup, h.apart, fun e k he hk => ?_⟩
 ·by_cases hbd : b = d
  ·subst hbd
   simp only [zac] at hbb ⊢
   cases hbb
   exact ⟨⟨vs⟩, ty, heap_alloc_new _ _, m.crs hc⟩
  ·simp only [zah _ _ hbd] at hbb ⊢
   obtain ⟨vs', ty', k1, k2⟩ := h.boxes b cs' hbb
   exact ⟨vs', ty', by rw [Below.heap_alloc _ _ _ (h.lt (by rw [hbb]; simp))]; exact k1, m.crs k2⟩
 ·by_cases hbd : b = d
  ·subst hbd; simp only [zac]; exact hn.new (Nat.le_refl _)
  ·simp only [zah _ _ hbd] at hbb ⊢; exact h.base b hbb
 ·by_cases e1 : b = d <;> by_cases e2 : b' = d
  ·rw [e1, e2]
  ·subst e1
   simp only [zac, zah _ _ e2] at h2 h3
   have := h.lt h2; omega
  ·subst e2
   simp only [zac, zah _ _ e1] at h1 h3
   have := h.lt h1; omega
  ·simp only [zah _ _ e1, zah _ _ e2] at h1 h2 h3
   exact h.inj b b' h1 h2 h3
 ·by_cases hkd : k = d
  ·subst hkd
   simp only [zac]
   intro hm
   obtain ⟨x, hx, ho⟩ := he
   have := (h.evs e x hx ho).lt _ hm
   omega
  ·simp only [zah _ _ hkd] at hk ⊢; exact h.ebx e k he hk
theorem Bk.of_alloc {n0 : Nat -> Prop} {w : World} (hn : LtK n0 w) (o : Obj) : Bk n0 w (w.alloc o) := ⟨rfl, rfl, rfl, by simp, fun k hk => Below.heap_alloc _ _ _ (hn k hk)⟩
theorem zae.newbox {o : Oper} {σ : St} {d : Nat} {cs : List C} (hd : o.dst = some d) (hb : σ.bx d = none)
  (h : ∀ n0 N g a w, Rel n0 N σ g a w -> ∃ vs ty, (execOp a.eval o).run P w = .ok (.value (.pointer (some ⟨w.heap.size, 0, none⟩))) (w.alloc (.cells ⟨vs⟩ ty)) /\ CRs σ g w cs vs) :
  zae P o σ { sl := upd σ.sl d (.one (.bx d 0)), bx := upd σ.bx d (some cs), ev := σ.ev } := by
 intro n0 N g a w hR hn hdN
 obtain ⟨vs, ty, h1, h2⟩ := h n0 N g a w hR
 unfold Oper.wp
 rw [h1]
 refine ⟨{ g with β := upd g.β d w.heap.size }, ?_, Bk.of_alloc hn _, rfl, rfl⟩
 have := (hR.newbox hn hb h2 ty).put (some d) (x := .one (.bx d 0)) (v := .pointer (some ⟨w.heap.size, 0, none⟩)) ⟨by simp [upd], by simp [upd]⟩ (fun i hi => by cases hi; exact hdN d hd)
 rw [hd]
 exact this
theorem zf7 {t : TypeId} {z : List C} (h : zcs P t = some z) : ∃ i zv, P.info? t = some i /\ i.zero = some zv /\ ∀ σ g w, CRs σ g w z zv.cells.toList := by
 unfold zcs at h
 cases hi : P.info? t with
 | none => rw [hi] at h; simp at h
 | some i =>
  rw [hi] at h
  simp only [Option.bind_some] at h
  cases hz : i.zero with
  | none => rw [hz] at h; simp at h
  | some zv =>
   rw [hz] at h
   simp only [Option.map_some, Option.some.injEq] at h
   subst h
   exact ⟨i, zv, rfl, hz, fun σ g w => zp2 σ g w (fun i => (nlsT P 6 t).getD i 0) zv.cells.toList 0⟩
theorem zx3 {o : Oper} {σ : St} {t : TypeId} {d : Nat} {z : List C} (ho : o.op = .alloc t) (hd : o.dst = some d) (hb : σ.bx d = none) (hz : zcs P t = some z) :
  zae P o σ { sl := upd σ.sl d (.one (.bx d 0)), bx := upd σ.bx d (some z), ev := σ.ev } :=
 zae.newbox hd hb fun n0 N g a w hR => by
  obtain ⟨i, zv, h1, h2, h3⟩ := zf7 hz
  refine ⟨zv.cells.toList, t, ?_, h3 σ g w⟩
  unfold execOp
  simp only [ho]
  simp [Instr.alloc, zeroValue, typeInfo, h1, h2, newVar, newRow]
theorem zai.one {w : World} {A : Nat -> Prop} : ∀ {t : T} {v : Value}, zai w A t v -> v.oneCell' = true /\ v.cells = #[v]
 | .int _ _, v, h => by unfold zai at h; rw [h.1]; exact ⟨rfl, rfl⟩
 | .bool _, v, h => by unfold zai at h; rw [h]; exact ⟨rfl, rfl⟩
 | .str _, v, h => by unfold zai at h; rw [h.1]; exact ⟨rfl, rfl⟩
 | .sl _ _, v, h => by unfold zai at h; obtain ⟨_, _, rfl, _⟩ := h; exact ⟨rfl, rfl⟩
 | .ptr _, v, h => by unfold zai at h; obtain ⟨_, _, rfl, _⟩ := h; exact ⟨rfl, rfl⟩
 | .fn _ _, v, h => by unfold zai at h; obtain ⟨_, rfl, _⟩ := h; exact ⟨rfl, rfl⟩
 | .mp _ _, v, h => by unfold zai at h; obtain ⟨_, _, _, rfl, _⟩ := h; exact ⟨rfl, rfl⟩
 | .pin _ _, v, h => by unfold zai at h; exact zai.one h.2
 | .vs _ _ _, v, h => by unfold zai at h; rw [h]; exact ⟨rfl, rfl⟩
 | .nmp, v, h => by unfold zai at h; rw [h]; exact ⟨rfl, rfl⟩
 | .cl _ _, v, h => by unfold zai at h; rw [h]; exact ⟨rfl, rfl⟩
 | .mq _ _, v, h => by unfold zai at h; obtain ⟨_, _, _, rfl, _⟩ := h; exact ⟨rfl, rfl⟩
theorem Rel.one {n0 : Nat -> Prop} {N : Nat} {σ : St} {g : Gh} {a : Act} {w : World} (h : Rel n0 N σ g a w) {c : C} {v : Value} (hc : CR σ g w c v) (hg : c.good = true) : v.oneCell' = true /\ v.cells = #[v] := by
 cases c with
 | t x => exact zai.one hc
 | nl s => rw [show v = .slice none 0 0 from hc]; exact ⟨rfl, rfl⟩
 | ow e s => obtain ⟨ao, n, c, hs⟩ := h.slc e s; rw [hc.1, hs]; exact ⟨rfl, rfl⟩
 | bx b o => rw [hc.1]; exact ⟨rfl, rfl⟩
 | el cs o => obtain ⟨b, q, rfl, _⟩ := hc; exact ⟨rfl, rfl⟩
 | er cs o => obtain ⟨b, q, rfl, _⟩ := hc; exact ⟨rfl, rfl⟩
 | eo e s z i o => obtain ⟨b, q, _, _, rfl, _⟩ := hc; exact ⟨rfl, rfl⟩
 | vw e s z o => obtain ⟨b, q, _, _, rfl, _⟩ := hc; exact ⟨rfl, rfl⟩
 | fn f caps => rw [hc.1]; exact ⟨rfl, rfl⟩
 | cv u =>
  rw [show v = u from hc]
  have hg' : qcb u = true := hg
  unfold qcb at hg'
  split at hg' <;> first | exact ⟨rfl, rfl⟩ | cases hg'
 | any => cases hg
 | rn x => exact zai.one hc
theorem Rel.cells {n0 : Nat -> Prop} {N : Nat} {σ : St} {g : Gh} {a : Act} {w : World} (h : Rel n0 N σ g a w) {x : V} {v : Value} (hv : VR σ g w x v) (hx : ∀ xs, x ≠ .tup xs) (hg : x.cells.all C.good = true) : CRs σ g w x.cells v.cells.toList /\ ∀ u ∈ v.cells.toList, u.oneCell' = true := by
 cases x with
 | one c =>
  have h1 := h.one hv (by simpa [V.cells] using hg)
  rw [h1.2]
  exact ⟨⟨v, [], rfl, hv, rfl⟩, by simpa using h1.1⟩
 | agg cs =>
  obtain ⟨vs, rfl, h2⟩ := hv
  refine ⟨h2, fun u hu => ?_⟩
  obtain ⟨j, hj, rfl⟩ := List.getElem_of_mem hu
  have hj' : j < cs.length := by have := h2.len; simp [Value.cells] at hj; omega
  obtain ⟨u', k1, k2⟩ := h2.at j cs[j] (by simp [hj'])
  have k1' : (Value.agg ⟨vs⟩).cells.toList[j]? = some u' := k1
  rw [List.getElem?_eq_getElem hj, Option.some.injEq] at k1'
  rw [k1']
  exact (h.one k2 (by simp only [V.cells, List.all_eq_true] at hg; exact hg _ (List.getElem_mem _))).1
 | tup xs => exact absurd rfl (hx xs)
theorem qg4 {o : Oper} {σ : St} {t : TypeId} {x : Operand} {d : Nat} (ho : o.op = .box t x) (hd : o.dst = some d) (hb : σ.bx d = none) (hx : ∀ xs, σ.get P t x ≠ .tup xs) (hg : (σ.get P t x).cells.all C.good = true) :
  zae P o σ { sl := upd σ.sl d (.one (.bx d 0)), bx := upd σ.bx d (some (σ.get P t x).cells), ev := σ.ev } :=
 zae.newbox hd hb fun n0 N g a w hR => by
  refine ⟨(a.eval x).cells.toList, t, ?_, (hR.cells (hR.get P t x) hx hg).1⟩
  unfold execOp
  simp only [ho]
  simp [Instr.box, newVar, newRow]
theorem qb2 {α : Type} (cs : List α) (o : Nat) (vs : List α) (h : o + vs.length <= cs.length) : (setR cs o vs).length = cs.length := by
 simp [setR]; omega
theorem CRs.setR {σ : St} {g : Gh} {w : World} {cs ds : List C} {vs us : List Value} (o : Nat) (h : CRs σ g w cs vs) (k : CRs σ g w ds us) : CRs σ g w (setR cs o ds) (vs.take o ++ us ++ vs.drop (o + us.length)) := by
 have := ((h.take o).append k).append (h.drop (o + us.length))
 rw [k.len] at this ⊢
 exact this
theorem zxm {o : Oper} {σ : St} {t : TypeId} {x y : Operand} {b p n : Nat} {cs : List C} (ho : o.op = .store t x y) (hx : σ.get P 0 x = .one (.bx b p)) (hn : zbc P t = some n) (hb : σ.bx b = some cs)
  (hl : (σ.get P t y).cells.length = n) (hle : p + n <= cs.length) (hg : (σ.get P t y).cells.all C.good = true) (hy : ∀ xs, σ.get P t y ≠ .tup xs) :
  zae P o σ ({ σ with bx := upd σ.bx b (some (setR cs p (σ.get P t y).cells)) } |>.put o.dst (.one .any)) := by
 intro n0 N g a w hR hn0 hdN
 have hv := hR.get P 0 x
 rw [hx] at hv
 obtain ⟨v1, v2⟩ := hv
 obtain ⟨c1, c2⟩ := hR.cells (hR.get P t y) hy hg
 obtain ⟨vs, ty, k1, k2⟩ := hR.boxes b cs hb
 have hlen : (a.eval y).cells.toList.length = n := by rw [c1.len]; exact hl
 have hsz : vs.toList.length = cs.length := k2.len
 have hrun : (execOp a.eval o).run P w = .ok .skip (w.setRow (g.β b) (vs.toList.take p ++ (a.eval y).cells.toList ++ vs.toList.drop (p + (a.eval y).cells.toList.length)).toArray) := by
  have hst := run_storeCells_at P (g.β b) p ty (a.eval y).cells.toList 0 vs w k1 (by rw [hlen]; simp at hsz; omega) c2
  simp only [Nat.add_zero] at hst
  have hcs : (a.eval y).cells.size = n := by simpa using hlen
  unfold execOp
  simp only [ho]
  simp only [Instr.storeAt, v1, Instr.sureAddr, Sem.run_bind, Sem.run_pure, Result.andThen, storeVar, zbo hn, hcs, ne_eq, not_true, if_false, hst]
 unfold Oper.wp
 rw [hrun]
 have hb' : ∀ k, k ≠ g.β b -> (w.setRow (g.β b) (vs.toList.take p ++ (a.eval y).cells.toList ++ vs.toList.drop (p + (a.eval y).cells.toList.length)).toArray).heap[k]? = w.heap[k]? := fun k hk => setRow_other w _ k _ hk
 have hnew := setRow_heap w (g.β b) vs (vs.toList.take p ++ (a.eval y).cells.toList ++ vs.toList.drop (p + (a.eval y).cells.toList.length)).toArray ty (0, 0) k1
 have hsize : (w.setRow (g.β b) (vs.toList.take p ++ (a.eval y).cells.toList ++ vs.toList.drop (p + (a.eval y).cells.toList.length)).toArray).heap.size = w.heap.size := setRow_size _ _ _
 generalize hw' : w.setRow (g.β b) (vs.toList.take p ++ (a.eval y).cells.toList ++ vs.toList.drop (p + (a.eval y).cells.toList.length)).toArray = w' at hb' hnew hsize ⊢
 have hbel : Bk n0 w w' := by
  subst hw'
  exact ⟨rfl, rfl, rfl, Nat.le_of_eq hsize.symm, fun k hk => hb' k (fun e => hR.base b v2 (e ▸ hk))⟩
 have hne : ∀ k, σ.bx k ≠ none -> (upd σ.bx b (some (setR cs p (σ.get P t y).cells))) k ≠ none := fun k hk => by
  unfold upd; split <;> simp_all
 have hne' : ∀ k, (upd σ.bx b (some (setR cs p (σ.get P t y).cells))) k ≠ none -> σ.bx k ≠ none := fun k hk => by
  unfold upd at hk; split at hk <;> simp_all
 have m : Mv σ { σ with bx := upd σ.bx b (some (setR cs p (σ.get P t y).cells)) } g g w w' :=
  ⟨fun k hf => hb' k (fun e => hf.1 b v2 e.symm), fun k hf => ⟨fun j hj => hf.1 j (hne' j hj), hf.2.1, by rw [hsize]; exact hf.2.2.1, hf.2.2.2⟩, fun k hk => ⟨rfl, hne k hk⟩, fun e _ he => ⟨he, rfl⟩, fun b hf => hf.2⟩
 have hR' : Rel n0 N { σ with bx := upd σ.bx b (some (setR cs p (σ.get P t y).cells)) } g a w' := by
  refine ⟨hR.defers, hR.size, hR.anew, fun i => m.vr (hR.slots i), fun k ds hk => ?_, fun k hk => hR.base k (hne' k hk), fun k k' h1 h2 => hR.inj k k' (hne' k h1) (hne' k' h2), fun e z he ho => m.evr (hR.evs e z he ho) fun q hq => hb' q (fun e' => hR.ebx e b ⟨z, he, ho⟩ v2 (e' ▸ hq)), fun e z he ho => ⟨m.rep (hR.offs e z he ho).1, (hR.offs e z he ho).2⟩, hR.slc, hR.ebase, hR.etop, hR.nodup, hR.apart, fun e k he hk => hR.ebx e k he (hne' k hk)⟩
  by_cases hkb : k = b
  ·subst hkb
   simp only [zac] at hk
   cases hk
   exact ⟨_, ty, hnew, by simpa using m.crs (k2.setR p c1)⟩
  ·simp only [zah _ _ hkb] at hk
   obtain ⟨vs', ty', j1, j2⟩ := hR.boxes k ds hk
   exact ⟨vs', ty', by rw [hb' _ (fun e => hkb (hR.inj k b (by rw [hk]; simp) v2 e))]; exact j1, m.crs j2⟩
 exact ⟨g, hR'.put o.dst (x := .one .any) trivial hdN, hbel, rfl, rfl⟩
end Go.Proofs.YtaaniggpnljckaaGreat
namespace Go.Proofs.YtaaniggpnljckaaGreat
set_option linter.unusedSimpArgs false
set_option linter.unusedVariables false
set_option linter.unusedSectionVars false
set_option maxRecDepth 4000
open Go.RowKit
variable {P : Program}
theorem CT0.rep {n0 : Nat -> Prop} {N : Nat} {σ : St} {g : Gh} {a : Act} {w : World} (hR : Rel n0 N σ g a w) {c : C} {t : T} (h : CT0 σ c t) {v : Value} (hv : CR σ g w c v) : zai w (· < w.heap.size) t v := by
 unfold CT0 at h
 split at h
 ·subst h; exact zai.keep (fun _ _ => rfl) (fun b hb => hb.2.2.1) _ _ hv
 ·subst h; exact zai.keep (fun _ _ => rfl) (fun b hb => hb.1.2.2.1) _ _ hv
 ·subst h
  rw [show v = .slice none 0 0 from hv]
  unfold zai
  exact ⟨none, 0, rfl, by simp, by simp, Or.inl rfl⟩
 ·rename_i e n sz rows
  obtain ⟨d, o, hd⟩ := h
  rw [hv.1]
  cases o with
  | true =>
   obtain ⟨ao, cap, e1, e2, e3, e4⟩ := hR.evs e _ hd rfl
   unfold zai
   refine ⟨ao, cap, e1, e2, e3, ?_⟩
   rcases e4 with ⟨_, _, e4, _⟩ | ⟨b, cells, ty, fps, k1, k2, k3, k4, k5⟩
   ·exact Or.inl e4
   ·refine Or.inr ⟨b, 0, k1, (Array.getElem?_eq_some_iff.1 k3).1, ?_⟩
    split at k5
    ·exact zag.rep b cells ty k3 0 sz rows fps k5 fun b' hb' => zag.lt cells 0 sz rows fps k5 b' hb'
    ·exact zak.keep (fun _ _ => rfl) (fun b hb => hb.2.2.1) b rfl 0 sz rows k5.2
  | false =>
   exact zai.keep (fun _ _ => rfl) (fun b hb => hb.2.2.1) _ _ (hR.offs e _ hd rfl).1
 ·obtain ⟨rfl, rfl⟩ := h
  obtain ⟨b, q, rfl, h2, h3⟩ := hv
  unfold zai
  exact ⟨b, q, by simp, h2.2.2.1, zaz.keep (fun _ _ => rfl) (fun b hb => hb.2.2.1) b rfl q _ h3⟩
 ·obtain ⟨rfl, rfl⟩ := h
  obtain ⟨b, q, rfl, h2, h3⟩ := hv
  unfold zai
  exact ⟨b, q, by simp, h2.1.2.2.1, zaz.keep (fun _ _ => rfl) (fun b hb => hb.1.2.2.1) b rfl q _ h3⟩
 ·exact h.elim
theorem zmw : ∀ {rows : List (List T)} {bs : List UInt8}, zgv rows = some bs -> bs.length = rows.length /\ ∀ (i : Nat) r, rows[i]? = some r -> ∃ n : Int, r = [.int .u8 n] /\ bs[i]? = some (UInt8.ofNat n.toNat)
 | [], bs, h => by cases h; exact ⟨rfl, fun i r hi => by simp at hi⟩
 | r0 :: rs, bs, h => by
  unfold zgv at h
  split at h
  ·rename_i e; exact absurd e (by simp)
  ·rename_i n rs' e
   cases e
   obtain ⟨bs', h1, rfl⟩ := Option.map_eq_some_iff.1 h
   obtain ⟨k1, k2⟩ := zmw h1
   refine ⟨by simp [k1], fun i r hi => ?_⟩
   cases i with
   | zero => simp only [List.getElem?_cons_zero, Option.some.injEq] at hi; subst hi; exact ⟨n, rfl, rfl⟩
   | succ i => simpa using k2 i r (by simpa using hi)
  ·cases h
theorem zx0 {w : World} {A : Nat -> Prop} {rows : List (List T)} {bs : List UInt8} {s d : TypeId} {v : Value} (hs : u8S P s = true) (hd : zzo P d = true) (hv : zai w A (.sl 1 rows) v) (h : zgv rows = some bs) :
  (convert s d v).run P w = .ok (.string ⟨bs.toArray⟩) w /\ bs.length <= zds := by
 obtain ⟨k1, k2⟩ := zmw h
 unfold u8S at hs
 split at hs
 ·rename_i e he
  split at hs
  ·rename_i hu
   unfold zai at hv
   obtain ⟨ao, cap, rfl, h2, h3, h4⟩ := hv
   refine ⟨?_, by omega⟩
   rcases h4 with rfl | ⟨b, o, rfl, _, h5⟩
   ·cases h
    cases ao with
    | none => rw [run_convert_bytes_nil w s e he hu _ _ d (zgp hd)]; rfl
    | some a =>
     rw [run_convert_bytes_string w s d e _ _ cap he hu (zgp hd), run_bytesToString w _ _ cap [] (by simpa using run_loadCells_list (P := P) w a [] (by simp))]
     rfl
   ·have hn : ∀ i, i < rows.length -> ∃ n : Int, w.cell? ⟨b, o + i, none⟩ = some (.int .u8 n) /\ bs[i]? = some (UInt8.ofNat n.toNat) := fun i hi => by
     obtain ⟨n, e1, e2⟩ := k2 i _ (List.getElem?_eq_getElem hi)
     obtain ⟨e3, e4⟩ := zak.at h5 i _ (List.getElem?_eq_getElem hi)
     rw [e1] at e4
     obtain ⟨u, e5, e6⟩ := zaz.at e4 0 _ rfl
     unfold zai at e6
     refine ⟨n, ?_, e2⟩
     rw [e6.1] at e5
     simpa using e5
    let xs := (List.range rows.length).map fun i => match w.cell? ⟨b, o + i, none⟩ with | some (.int _ n) => n | _ => 0
    have hx : ∀ i, i < rows.length -> ∃ n : Int, w.cell? ⟨b, o + i, none⟩ = some (.int .u8 n) /\ bs[i]? = some (UInt8.ofNat n.toNat) /\ xs.getD i 0 = n := fun i hi => by
     obtain ⟨n, e1, e2⟩ := hn i hi
     refine ⟨n, e1, e2, ?_⟩
     simp only [xs, List.getD_eq_getElem?_getD, List.getElem?_map, List.getElem?_range hi, Option.map_some, Option.getD_some, e1]
    rw [run_convert_bytes_arg w s e he hu b o rows.length cap xs (by simp [xs]) (fun i hi => by obtain ⟨n, e1, e2, e3⟩ := hx i hi; rw [e1, e3]) d (zgp hd)]
    congr 3
    unfold strOfNums
    congr 2
    refine List.ext_getElem? fun i => ?_
    by_cases hi : i < rows.length
    ·obtain ⟨n, e1, e2, e3⟩ := hx i hi
     rw [e2, List.getElem?_map]
     rw [List.getD_eq_getElem?_getD] at e3
     have hl : i < xs.length := by simp [xs, hi]
     rw [List.getElem?_eq_getElem hl] at e3 ⊢
     simp only [Option.getD_some] at e3
     rw [e3]; rfl
    ·rw [List.getElem?_eq_none (by simp [xs]; omega), List.getElem?_eq_none (by omega)]
  ·cases hs
 ·cases hs
theorem zu1 {o : Oper} {σ : St} {s d : TypeId} {x : Operand} {v : V} (ho : o.op = .convert s d x) (h : zoi P σ s d (σ.get P s x) = some v) : zae P o σ (σ.put o.dst v) := by
 unfold zoi at h
 split at h
 ·rename_i hh
  have hh : u8S P s = true /\ zzo P d = true := hh
  have key : ∀ {c : C} {rows : List (List T)} {bs : List UInt8}, σ.get P s x = .one c -> CT0 σ c (.sl 1 rows) -> zgv rows = some bs -> v = .one (.t (.str bs)) -> zae P o σ (σ.put o.dst v) := fun hx hc hb e => by
   subst e
   refine zae.value fun n0 N g a w hR => ?_
   have hv := hR.get P s x
   rw [hx] at hv
   have hr := CT0.rep hR hc hv
   obtain ⟨k1, k2⟩ := zx0 hh.1 hh.2 hr hb
   refine ⟨_, ?_, show CR σ g w (.t (.str _)) _ from by unfold CR zai; exact ⟨rfl, k2⟩⟩
   unfold execOp
   simp only [ho]
   simp [k1]
  split at h
  ·rename_i sz rows hx
   split at h
   ·rename_i hz
    subst hz
    obtain ⟨bs, hb, rfl⟩ := Option.map_eq_some_iff.1 h
    exact key hx rfl hb rfl
   ·cases h
  ·rename_i e gn hx
   obtain ⟨y, hy, h⟩ := Option.bind_eq_some_iff.1 h
   split at h
   ·rename_i hg
    obtain ⟨bs, hb, rfl⟩ := Option.map_eq_some_iff.1 h
    obtain ⟨dp, sz, rows, gg, on⟩ := y
    obtain ⟨rfl, rfl⟩ := hg
    exact key hx ⟨dp, on, hy⟩ hb rfl
   ·cases h
  ·cases h
 ·cases h
theorem znk {o : Oper} {σ : St} {x : Operand} (ho : o.op = .nilCheck x) (hx : (∃ b p, σ.get P 0 x = .one (.bx b p)) \/ (∃ cs p, σ.get P 0 x = .one (.el cs p)) \/ (∃ e s z i p, σ.get P 0 x = .one (.eo e s z i p)) \/ (∃ cs, σ.get P 0 x = .one (.t (.ptr cs))) \/ (∃ f caps, σ.get P 0 x = .one (.fn f caps)) \/ (∃ cs p, σ.get P 0 x = .one (.er cs p))) :
  zae P o σ (σ.put o.dst (σ.get P 0 x)) :=
 zae.value fun n0 N g a w hR => by
  have hv := hR.get P 0 x
  refine ⟨a.eval x, ?_, hv⟩
  unfold execOp
  simp only [ho]
  rcases hx with ⟨b, p, h⟩ | ⟨cs, p, h⟩ | ⟨e, s, z, i, p, h⟩ | ⟨cs, h⟩ | ⟨f, caps, h⟩ | ⟨cs, p, h⟩ <;> rw [h] at hv
  ·rw [hv.1]; rfl
  ·obtain ⟨b, q, k1, _⟩ := hv; rw [k1]; rfl
  ·obtain ⟨b, q, _, _, k1, _⟩ := hv; rw [k1]; rfl
  ·simp only [VR, CR, zai] at hv; obtain ⟨b, q, k1, _⟩ := hv; rw [k1]; rfl
  ·rw [hv.1]; rfl
  ·obtain ⟨b, q, k1, _⟩ := hv; rw [k1]; rfl
theorem zy2 {t : TypeId} {k : IntKind} (h : qbm P t = some k) : P.underlying t = some (.int k) := by
 unfold qbm at h
 split at h
 ·rename_i k' hu; cases h; exact hu
 ·cases h
theorem zou {o : Oper} {σ : St} {s d : TypeId} {x : Operand} {ks k k' : IntKind} {n : Int} (ho : o.op = .convert s d x) (h1 : qbm P s = some ks) (h2 : qbm P d = some k) (hx : σ.get P s x = .one (.t (.int k' n))) :
  zae P o σ (σ.put o.dst (.one (.t (.int k (k.wrap n))))) :=
 zae.value fun n0 N g a w hR => by
  have hv := hR.get P s x
  rw [hx] at hv
  simp only [VR, CR, zai] at hv
  refine ⟨.int k (k.wrap n), ?_, show CR σ g w _ _ from ze6 _ _⟩
  unfold execOp
  simp only [ho]
  simp [convert, run_underlying (zy2 h1), run_underlying (zy2 h2), hv.1, Conv.intToInt]
theorem zik {n0 : Nat -> Prop} {N : Nat} {σ : St} {g : Gh} {a : Act} {w : World} (hR : Rel n0 N σ g a w) : ∀ (l : List Operand) (bs : List Nat), zdy (σ.get P 0) l = some bs -> l.map a.eval = bs.map (fun b => Value.pointer (some ⟨g.β b, 0, none⟩)) /\ ∀ b ∈ bs, σ.bx b ≠ none
 | [], bs, h => by cases h; simp
 | x :: l, bs, h => by
  unfold zdy at h
  split at h
  ·rename_i b hx
   obtain ⟨bs', h1, rfl⟩ := Option.map_eq_some_iff.1 h
   obtain ⟨i1, i2⟩ := zik hR l bs' h1
   have hv := hR.get P 0 x
   rw [hx] at hv
   refine ⟨by simp [i1, hv.1], fun c hc => ?_⟩
   rcases List.mem_cons.1 hc with rfl | hc
   ·exact hv.2
   ·exact i2 c hc
  ·cases h
theorem zmo {o : Oper} {σ : St} {f : FuncId} {first captured : Array Operand} {bs : List Nat} (ho : o.op = .makeFunc (.func f) first captured) (h0 : first.size = 0)
  (h : zdy (σ.get P 0) captured.toList = some bs) : zae P o σ (σ.put o.dst (.one (.fn f bs))) :=
 zae.value fun n0 N g a w hR => by
  obtain ⟨k1, k2⟩ := zik hR _ _ h
  have hf : first = #[] := Array.eq_empty_of_size_eq_zero h0
  subst hf
  have hc : captured.map a.eval = ⟨bs.map fun b => .pointer (some ⟨g.β b, 0, none⟩)⟩ := by
   apply Array.ext'
   rw [Array.toList_map, k1]
  refine ⟨.func (.func f) #[] ⟨bs.map fun b => .pointer (some ⟨g.β b, 0, none⟩)⟩, ?_, rfl, k2⟩
  unfold execOp
  simp only [ho]
  simp only [Instr.makeFunc, Sem.run_bind, Sem.run_pure, Result.andThen, hc]
  simp
theorem zpk {x : V} (h : x.isTup = false) : ∀ xs, x ≠ .tup xs := fun xs e => by subst e; cases h
theorem zqy (cells : Array Value) (off : Nat) : ∀ (l : List Value) (k : Nat) (cs : Array Value), off + k + l.length <= cs.size →
  ((l.zipIdx k).foldl (fun cs (c, j) => cs.setIfInBounds (off + j) c) cs).toList = cs.toList.take (off + k) ++ l ++ cs.toList.drop (off + k + l.length)
 | [], k, cs, _ => by simp
 | v :: l, k, cs, h => by
  simp only [List.zipIdx_cons, List.foldl_cons]
  rw [zqy cells off l (k + 1) _ (by simp at h ⊢; omega)]
  simp only [Array.toList_setIfInBounds, List.length_cons]
  have := list_seg_step cs.toList (off + k) v l (by simp at h ⊢; omega)
  rw [show off + (k + 1) = off + k + 1 by omega]
  exact this
theorem zjq (cs : Array Value) (q : Nat) (l : List Value) (h : q + l.length <= cs.size) : ((l.toArray.zipIdx).foldl (fun cs (c, j) => cs.setIfInBounds (q + j) c) cs).toList = cs.toList.take q ++ l ++ cs.toList.drop (q + l.length) := by
 rw [<- Array.foldl_toList]
 have := zqy cs q l 0 cs (by simpa using h)
 simpa using this
theorem Rel.vcells {n0 : Nat -> Prop} {N : Nat} {σ : St} {g : Gh} {a : Act} {w : World} (hR : Rel n0 N σ g a w) (ty : TypeId) (x : Operand) (h1 : (σ.get P ty x).cells.all C.good = true) (h2 : (σ.get P ty x).isTup = false) :
  CRs σ g w (σ.get P ty x).cells (a.eval x).cells.toList /\ ∀ u ∈ (a.eval x).cells.toList, u.oneCell' = true := hR.cells (hR.get P ty x) (zpk h2) h1
theorem zre {n0 : Nat -> Prop} {N : Nat} {σ : St} {g : Gh} {a : Act} {w : World} (hR : Rel n0 N σ g a w) (t : TypeId) (pls : List (Nat × Nat)) : ∀ (parts : List (Nat × Operand)) (cs cs' : List C) (vs : Array Value), CRs σ g w cs vs.toList -> zdk P t pls (σ.get P) parts cs = some cs' →
  ∃ vs', Instr.fill (pls.toArray[·]?) vs (parts.map fun (i, x) => (i, a.eval x)) = some vs' /\ CRs σ g w cs' vs'.toList
 | [], cs, cs', vs, hc, h => by cases h; exact ⟨vs, rfl, hc⟩
 | (i, x) :: rest, cs, cs', vs, hc, h => by
  unfold zdk at h
  generalize ftyT P t i = ty at h
  split at h
  ·rename_i q n hp
   split at h
   ·rename_i hh
    obtain ⟨h1, h2, h3, h4⟩ := hh
    obtain ⟨c1, c2⟩ := hR.vcells ty x h3 h4
    generalize hus : (a.eval x).cells = us at c1 c2
    generalize hxs : (σ.get P ty x).cells = xs at c1 c2 h1 h
    have hl := c1.len
    have hvl := hc.len
    have hsz : us.size = n := by rw [<- h1, <- hl]; simp
    have hset := zjq vs q us.toList (by simp at hvl hl ⊢; omega)
    have hcr : CRs σ g w (setR cs q xs) (((us.toList.toArray.zipIdx).foldl (fun cs (c, j) => cs.setIfInBounds (q + j) c) vs).toList) := by
     rw [hset]; exact hc.setR q c1
    obtain ⟨vs', k1, k2⟩ := zre hR t pls rest _ cs' _ hcr h
    refine ⟨vs', ?_, k2⟩
    have hpa : pls.toArray[i]? = some (q, n) := by simpa using hp
    have hcond : ¬ (us.size ≠ n || q + us.size > vs.size) = true := by
     have : vs.size = cs.length := by simpa using hvl
     simp [hsz]; omega
    simp only [List.map_cons, Instr.fill, hpa, hus, if_neg hcond]
    simpa using k1
   ·cases h
  ·cases h
theorem qa7 {t : TypeId} {pls : List (Nat × Nat)} (h : qci P t = some pls) {z : List C} (hz : zcs P t = some z) (parts : List (Nat × Value)) : ∃ zv : Value, (∀ σ g w, CRs σ g w z zv.cells.toList) /\ P.built t parts = Instr.fill (pls.toArray[·]?) zv.cells parts := by
 obtain ⟨i, zv, h1, h2, h3⟩ := zf7 hz
 refine ⟨zv, h3, ?_⟩
 unfold qci at h
 split at h
 ·rename_i fs hu
  unfold Program.built
  simp only [h1, hu, h2, h]
 ·cases h
theorem zyp {o : Oper} {σ : St} {t : TypeId} {parts : Array (Nat × Operand)} {pls : List (Nat × Nat)} {z cs : List C} (ho : o.op = .build t parts) (h1 : qci P t = some pls) (h2 : zcs P t = some z)
  (h3 : zdk P t pls (σ.get P) parts.toList z = some cs) : zae P o σ (σ.put o.dst (.agg cs)) :=
 zae.value fun n0 N g a w hR => by
  obtain ⟨zv, k1, k2⟩ := qa7 h1 h2 (parts.map fun (i, x) => (i, a.eval x)).toList
  obtain ⟨vs', k3, k4⟩ := zre hR t pls parts.toList z cs zv.cells (k1 _ _ _) h3
  refine ⟨.agg vs', ?_, vs'.toList, by simp, k4⟩
  unfold execOp
  simp only [ho]
  have hb : P.built t (parts.map fun (i, x) => (i, a.eval x)).toList = some vs' := by rw [k2]; rw [Array.toList_map]; exact k3
  simp only [Sem.run_bind, run_build w t _ vs' hb, Result.andThen, Sem.run_pure]
theorem thnK {s : qd8} {K : St -> Prop} (h : thn s K) : ∃ p σ', s = some (p, σ') /\ p /\ K σ' := by
 unfold thn at h
 split at h
 ·exact ⟨_, _, rfl, h.1, h.2⟩
 ·exact h.elim
theorem qbb (c : Bool) (x y : T) : zzt c x y = if c = true then x else y := by
 unfold zzt
 split <;> cases c <;> simp
theorem qdk (c : Bool) (x y : V) : zwg c x y = if c = true then x else y := by
 unfold zwg
 split
 ·rw [qbb]; cases c <;> simp
 ·cases c <;> simp
theorem qa8 {o : Oper} {σ : St} {x y z : Operand} {c : Bool} (ho : o.op = .pick z x y) (hz : σ.get P 0 z = .one (.t (.bool c))) : zae P o σ (σ.put o.dst (zwg c (σ.get P o.type x) (σ.get P o.type y))) :=
 zae.value fun n0 N g a w hR => by
  have hv := hR.get P 0 z
  rw [hz] at hv
  simp only [VR, CR, zai] at hv
  refine ⟨if c = true then a.eval x else a.eval y, by unfold execOp; simp only [ho, hv, asBool, Sem.run_bind, Sem.run_pure, Result.andThen], ?_⟩
  rw [qdk]
  cases c
  ·exact hR.get P o.type y
  ·exact hR.get P o.type x
theorem znf {o : Oper} {σ σ' : St} {p : Prop} (h : st0 P o σ = some (p, σ')) (hp : p) : zae P o σ σ' := by
 unfold st0 at h
 split at h
 all_goals rename_i ho
 ·obtain ⟨v, hv, rfl⟩ := zb0 h
  cases hv
  exact zae.value fun n0 N g a w hR => ⟨_, by unfold execOp; simp only [ho, Sem.run_pure], hR.get P _ _⟩
 ·obtain ⟨v, hv, rfl⟩ := zb0 h
  cases hv
  exact zae.value fun n0 N g a w hR => ⟨_, by unfold execOp; simp only [ho, Sem.run_pure], hR.get P _ _⟩
 ·split at h
  ·rename_i hc
   obtain ⟨v, hv, rfl⟩ := zb0 h
   cases hv
   exact qa8 ho hc
  ·cases h
 ·obtain ⟨v, hv, rfl⟩ := zb0 h
  obtain ⟨y, h1, h2⟩ := Option.bind_eq_some_iff.1 hv
  exact qbq ho h1 h2
 ·obtain ⟨v, hv, rfl⟩ := qhh h
  exact qfp ho hv hp
 ·obtain ⟨v, hv, rfl⟩ := zb0 h
  obtain ⟨c, h1, rfl⟩ := Option.map_eq_some_iff.1 hv
  exact sem_un ho h1
 ·split at h
  ·obtain ⟨v, hv, rfl⟩ := zb0 h
   exact zoz ho ‹_› hv
  ·cases h
 ·obtain ⟨y, h1, h2⟩ := Option.bind_eq_some_iff.1 h
  obtain ⟨q, ft⟩ := y
  obtain ⟨n, hn, h3⟩ := Option.bind_eq_some_iff.1 h2
  by_cases h0 : n = 0
  ·rw [if_pos h0] at h3; cases h3
  ·rw [if_neg h0] at h3
   exact zk8 ho h1 hn h0 h3
 ·obtain ⟨y, h1, h2⟩ := Option.bind_eq_some_iff.1 h
  obtain ⟨q, ft⟩ := y
  simp only at h2
  split at h2
  ·obtain ⟨v, hv, rfl⟩ := zb0 h2
   exact zy6 ho h1 ‹_› hv
  ·cases h2
 ·obtain ⟨n, h1, h2⟩ := Option.bind_eq_some_iff.1 h
  exact zkt ho h1 h2 hp
 ·exact zwf ho h hp
 ·split at h
  all_goals first
   | (rename_i hx; obtain ⟨v, hv, rfl⟩ := zb0 h; cases hv; rw [<- hx]; refine znk ho ?_; rw [hx]; simp)
   | cases h
 ·split at h
  ·rename_i h1 h2 h3
   obtain ⟨v, hv, rfl⟩ := zb0 h
   cases hv
   exact zou ho h1 h2 h3
  ·obtain ⟨v, hv, rfl⟩ := zb0 h
   exact zu1 ho hv
 ·split at h
  ·rename_i x t h1 h2
   split at h
   ·rename_i sz rows hx
    split at h
    ·rename_i he
     obtain ⟨v, hv, rfl⟩ := zb0 h
     cases hv
     obtain ⟨e, he⟩ := Option.isSome_iff_exists.1 he
     have hu : P.underlying t = some (.slice e) := by unfold elT at he; split at he <;> simp_all
     by_cases hn : rows.length <= zds
     ·refine zgb ho h1 h2 hn fun n0 N g a w hR => ?_
      have hv := hR.get P t x
      rw [hx] at hv
      simp only [VR, CR, zai] at hv
      obtain ⟨ao, cap, k1, k2⟩ := hv
      simp [Builtin.len_, run_underlying hu, k1, goInt]
     ·refine zae.value fun n0 N g a w hR => ?_
      have hv := hR.get P t x
      rw [hx] at hv
      simp only [VR, CR, zai] at hv
      obtain ⟨ao, cap, k1, k2, k3, k4⟩ := hv
      omega
    ·cases h
   ·rename_i sz rows hx
    split at h
    ·rename_i he
     obtain ⟨v, hv, rfl⟩ := zb0 h
     cases hv
     obtain ⟨e, he⟩ := Option.isSome_iff_exists.1 he
     have hu : P.underlying t = some (.slice e) := by unfold elT at he; split at he <;> simp_all
     by_cases hn : rows.length <= zds
     ·refine zgb ho h1 h2 hn fun n0 N g a w hR => ?_
      have hv := hR.get P t x
      rw [hx] at hv
      simp only [VR, CR, zai] at hv
      obtain ⟨ao, cap, k1, k2⟩ := hv
      simp [Builtin.len_, run_underlying hu, k1, goInt]
     ·refine zae.value fun n0 N g a w hR => ?_
      have hv := hR.get P t x
      rw [hx] at hv
      simp only [VR, CR, zai] at hv
      obtain ⟨ao, cap, k1, k2, k3, k4⟩ := hv
      omega
    ·cases h
   ·rename_i s hx
    split at h
    ·rename_i he
     obtain ⟨v, hv, rfl⟩ := zb0 h
     cases hv
     by_cases hn : s.length <= zds
     ·refine zgb ho h1 h2 hn fun n0 N g a w hR => ?_
      have hv := hR.get P t x
      rw [hx] at hv
      simp only [VR, CR, zai] at hv
      have hz : (⟨s.toArray⟩ : ByteArray).size = s.length := by simp [ByteArray.size]
      simp [Builtin.len_, run_underlying (zgp he), hv.1, goInt, hz]
     ·refine zae.value fun n0 N g a w hR => ?_
      have hv := hR.get P t x
      rw [hx] at hv
      simp only [VR, CR, zai] at hv
      exact absurd hv.2 hn
    ·cases h
   ·rename_i s hx
    split at h
    ·rename_i he
     obtain ⟨v, hv, rfl⟩ := zb0 h
     cases hv
     obtain ⟨e, he⟩ := Option.isSome_iff_exists.1 he
     have hu : P.underlying t = some (.slice e) := by unfold elT at he; split at he <;> simp_all
     refine zgb (n := 0) ho h1 h2 (by omega) fun n0 N g a w hR => ?_
     have hv := hR.get P t x
     rw [hx] at hv
     simp [Builtin.len_, run_underlying hu, show a.eval x = .slice none 0 0 from hv, goInt]
    ·cases h
   ·rename_i e s hx
    split at h
    ·rename_i he
     obtain ⟨y, hy, h⟩ := Option.bind_eq_some_iff.1 h
     split at h
     ·rename_i hgen
      obtain ⟨v, hv, rfl⟩ := zb0 h
      cases hv
      obtain ⟨el, he⟩ := Option.isSome_iff_exists.1 he
      have hu : P.underlying t = some (.slice el) := by unfold elT at he; split at he <;> simp_all
      by_cases hn : y.rows.length <= zds
      ·refine zgb ho h1 h2 hn fun n0 N g a w hR => ?_
       have hv := hR.get P t x
       rw [hx] at hv
       obtain ⟨ao, cap, e1, _⟩ := hR.sliceAny hy
       rw [hgen] at e1
       simp [Builtin.len_, run_underlying hu, hv.1.trans e1, goInt]
      ·refine zae.value fun n0 N g a w hR => ?_
       obtain ⟨ao, cap, e1, e2, e3⟩ := hR.sliceAny hy
       omega
     ·cases h
    ·cases h
   ·rename_i e s z q hx
    split at h
    ·rename_i he
     obtain ⟨y, hy, h⟩ := Option.bind_eq_some_iff.1 h
     split at h
     ·rename_i hgen
      obtain ⟨v, hv, rfl⟩ := zb0 h
      cases hv
      obtain ⟨el, he⟩ := Option.isSome_iff_exists.1 he
      have hu : P.underlying t = some (.slice el) := by unfold elT at he; split at he <;> simp_all
      by_cases hn : y.rows.length - q <= zds
      ·refine zgb ho h1 h2 hn fun n0 N g a w hR => ?_
       have hv := hR.get P t x
       rw [hx] at hv
       obtain ⟨b', n', c', v1, v2, v3, v4⟩ := hv
       obtain ⟨ao, cap, e1, _⟩ := hR.sliceAny hy
       rw [hgen] at e1
       obtain rfl : y.rows.length = n' := by
        have := e1.symm.trans v1
        simp only [Value.slice.injEq] at this
        exact this.2.1
       simp [Builtin.len_, run_underlying hu, v2, goInt]
      ·refine zae.value fun n0 N g a w hR => ?_
       obtain ⟨ao, cap, e1, e2, e3⟩ := hR.sliceAny hy
       omega
     ·cases h
    ·cases h
   ·cases h
  ·cases h
 ·split at h
  ·rename_i d hd
   split at h
   ·rename_i hb
    obtain ⟨z, hz, h⟩ := Option.bind_eq_some_iff.1 h
    simp only [Option.some.injEq, Prod.mk.injEq] at h
    obtain ⟨_, rfl⟩ := h
    exact zx3 ho hd (by simpa using hb) hz
   ·cases h
  ·cases h
 ·split at h
  ·rename_i d hd
   split at h
   ·rename_i hb
    simp only [Option.some.injEq, Prod.mk.injEq] at h
    obtain ⟨_, rfl⟩ := h
    exact qg4 ho hd (by simpa using hb.1) (zpk hb.2.1) hb.2.2
   ·cases h
  ·cases h
 ·split at h
  ·rename_i b q n hx hn
   obtain ⟨cs, hc, h⟩ := Option.bind_eq_some_iff.1 h
   split at h
   ·rename_i hh
    simp only [Option.some.injEq, Prod.mk.injEq] at h
    obtain ⟨_, rfl⟩ := h
    exact zxm ho hx hn hc hh.1 hh.2.1 hh.2.2.1 (zpk hh.2.2.2)
   ·cases h
  ·cases h
 ·obtain ⟨pls, h1, h⟩ := Option.bind_eq_some_iff.1 h
  obtain ⟨v, hv, rfl⟩ := zb0 h
  obtain ⟨z, h2, hv⟩ := Option.bind_eq_some_iff.1 hv
  obtain ⟨cs, h3, rfl⟩ := Option.map_eq_some_iff.1 hv
  exact zyp ho h1 h2 h3
 ·split at h
  ·obtain ⟨bs, h1, h⟩ := Option.bind_eq_some_iff.1 h
   obtain ⟨v, hv, rfl⟩ := zb0 h
   cases hv
   exact zmo ho ‹_› h1
  ·cases h
 ·cases h
theorem zkw {n0 : Nat -> Prop} {N : Nat} {σ : St} {g : Gh} {a : Act} {w : World} (hR : Rel n0 N σ g a w) {d k : Int} {x : Operand} (h : ziv (σ.get P) d (some x) = some k) : ∃ kk, a.eval x = .int kk k := by
 unfold ziv at h
 simp only at h
 split at h
 ·rename_i kk k' hx
  cases h
  have hv := hR.get P 0 x
  rw [hx] at hv
  simp only [VR, CR, zai] at hv
  exact ⟨kk, hv.1⟩
 ·cases h
theorem zcg {n0 : Nat -> Prop} {N : Nat} {σ : St} {g : Gh} {a : Act} {w : World} (hR : Rel n0 N σ g a w) {low high : Option Operand} {l u : Int} {len cap : Nat} (is : Bool) (hl : ziv (σ.get P) 0 low = some l) (hh : ziv (σ.get P) len high = some u)
  (h1 : 0 <= l) (h2 : l <= u) (h3 : u <= len) (h4 : len <= cap) : (Instr.sliceBounds is len cap (low.map a.eval) (high.map a.eval) none).run P w = .ok (l.toNat, u.toNat, cap) w := by
 cases low with
 | none =>
  cases hl
  cases high with
  | none => cases hh; simp [Instr.sliceBounds, Result.andThen]
  | some y =>
   obtain ⟨ky, hy⟩ := zkw hR hh
   simp [Instr.sliceBounds, Instr.sliceBound, asIntOf, Result.andThen, hy, h2, show u <= (cap : Int) by omega]
 | some x =>
  obtain ⟨kx, hx⟩ := zkw hR hl
  cases high with
  | none => cases hh; simp [Instr.sliceBounds, Instr.sliceBound, asIntOf, Result.andThen, hx, h1, h2]
  | some y =>
   obtain ⟨ky, hy⟩ := zkw hR hh
   simp [Instr.sliceBounds, Instr.sliceBound, asIntOf, Result.andThen, hx, hy, h1, h2, show 0 <= u by omega, show u <= (cap : Int) by omega, show l <= max u 0 by omega]
theorem zak.take {w : World} {A : Nat -> Prop} {b sz o : Nat} {rows : List (List T)} (h : zak w A b o sz rows) (n : Nat) : zak w A b o sz (rows.take n) :=
 zak.mk fun i r hi => h.at i r (by
  rw [List.getElem?_take] at hi
  split at hi
  ·exact hi
  ·cases hi)
theorem zak.drop {w : World} {A : Nat -> Prop} {b sz o : Nat} {rows : List (List T)} (h : zak w A b o sz rows) (n : Nat) : zak w A b (o + n * sz) sz (rows.drop n) :=
 zak.mk fun i r hi => by
  have := h.at (n + i) r (by rw [List.getElem?_drop] at hi; exact hi)
  rwa [show o + (n + i) * sz = o + n * sz + i * sz by rw [Nat.add_mul]; omega] at this
theorem znr {o : Oper} {σ : St} {p : Prop} {v : V} (h : vop P (σ.get P) o.op = some (p, v)) (hp : p) : zae P o σ (σ.put o.dst v) := by
 unfold vop at h
 split at h
 ·rename_i asx ts ho
  split at h
  ·rename_i x y hl
   have e1 : asx = #[x, y] := by rw [<- Array.toArray_toList (xs := asx), hl]
   subst e1
   unfold zvk at h
   split at h
   ·rename_i k m k' n hx hy
    split at h
    ·rename_i hkk
     subst hkk
     simp only [Option.some.injEq, Prod.mk.injEq] at h
     obtain ⟨rfl, rfl⟩ := h
     refine zae.value fun n0 N g a w hR => ?_
     have hv := hR.get P 0 x
     have hw := hR.get P 0 y
     rw [hx] at hv
     rw [hy] at hw
     simp only [VR, CR, zai] at hv hw
     refine ⟨.int k (max m n), ?_, ?_⟩
     ·unfold execOp
      simp only [ho]
      have e : (if n > m then n else m) = max m n := by split <;> omega
      simp [resolve, invoke, builtin, Builtin.max_, Builtin.max2, hv.1, hw.1, e]
     ·simp only [VR, CR, zai]; exact ⟨trivial, by omega, by omega⟩
    ·cases h
   ·cases h
  ·cases h
 ·rename_i asx ts ho
  split at h
  ·rename_i x y hl
   have e1 : asx = #[x, y] := by rw [<- Array.toArray_toList (xs := asx), hl]
   subst e1
   unfold zvk at h
   split at h
   ·rename_i k m k' n hx hy
    split at h
    ·rename_i hkk
     subst hkk
     simp only [Option.some.injEq, Prod.mk.injEq] at h
     obtain ⟨rfl, rfl⟩ := h
     refine zae.value fun n0 N g a w hR => ?_
     have hv := hR.get P 0 x
     have hw := hR.get P 0 y
     rw [hx] at hv
     rw [hy] at hw
     simp only [VR, CR, zai] at hv hw
     refine ⟨.int k (min m n), ?_, ?_⟩
     ·unfold execOp
      simp only [ho]
      have e : (if n < m then n else m) = min m n := by split <;> omega
      simp [resolve, invoke, builtin, Builtin.min_, Builtin.min2, hv.1, hw.1, e]
     ·simp only [VR, CR, zai]; exact ⟨trivial, by omega, by omega⟩
    ·cases h
   ·cases h
  ·cases h
 ·rename_i t x low high ho
  unfold zp1 at h
  split at h
  ·rename_i s hx
   split at h
   ·rename_i ht
    obtain ⟨l, hl, h⟩ := Option.bind_eq_some_iff.1 h
    obtain ⟨u, hu, h⟩ := Option.bind_eq_some_iff.1 h
    simp only [Option.some.injEq, Prod.mk.injEq] at h
    obtain ⟨rfl, rfl⟩ := h
    obtain ⟨p1, p2, p3⟩ := hp
    refine zae.value fun n0 N g a w hR => ?_
    have hv := hR.get P t x
    rw [hx] at hv
    simp only [VR, CR, zai] at hv
    have hz : (⟨s.toArray⟩ : ByteArray).size = s.length := by simp [ByteArray.size]
    refine ⟨.string ⟨((s.take u.toNat).drop l.toNat).toArray⟩, ?_, ?_⟩
    ·have hb := zcg (low := low) (high := high) (len := s.length) (cap := s.length) hR false hl hu p1 p2 p3 (Nat.le_refl _)
     have hex : (⟨s.toArray⟩ : ByteArray).extract l.toNat u.toNat = ⟨((s.take u.toNat).drop l.toNat).toArray⟩ := by
      apply ByteArray.ext
      rw [ByteArray.data_extract]
      apply Array.ext'
      simp [List.drop_take]
     unfold execOp
     simp only [ho]
     simp only [Instr.sliceAt, Instr.slice, Sem.run_bind, run_underlying (zgp ht), Result.andThen, hv.1, hz, hb, hex, Option.map_none, Option.isSome_none, Bool.false_eq_true, if_false, Sem.run_pure]
    ·simp only [VR, CR, zai]
     exact ⟨trivial, by simp; omega⟩
   ·cases h
  ·rename_i sz rows hx
   obtain ⟨n, hn, h⟩ := Option.bind_eq_some_iff.1 h
   obtain ⟨el, he, hs⟩ := Option.bind_eq_some_iff.1 hn
   obtain ⟨l, hl, h⟩ := Option.bind_eq_some_iff.1 h
   obtain ⟨u, hu, h⟩ := Option.bind_eq_some_iff.1 h
   simp only [Option.some.injEq, Prod.mk.injEq] at h
   obtain ⟨rfl, rfl⟩ := h
   obtain ⟨rfl, p1, p2, p3⟩ := hp
   have hun : P.underlying t = some (.slice el) := by unfold elT at he; split at he <;> simp_all
   refine zae.value fun n0 N g a w hR => ?_
   have hv := hR.get P t x
   rw [hx] at hv
   simp only [VR, CR, zai] at hv
   obtain ⟨ao, cap, k1, k2, k3, k4⟩ := hv
   have hb := zcg (low := low) (high := high) (len := rows.length) (cap := cap) hR true hl hu p1 p2 p3 k2
   have hlen : ((rows.take u.toNat).drop l.toNat).length = u.toNat - l.toNat := by simp; omega
   refine ⟨.slice (if cap = l.toNat then ao else ao.map (·.add (l.toNat * sz))) (u.toNat - l.toNat) (cap - l.toNat), ?_, ?_⟩
   ·unfold execOp
    simp only [ho]
    simp only [Instr.sliceAt, Instr.slice, Sem.run_bind, run_underlying hun, Result.andThen, k1, hb, zbo hs, Sem.run_pure, Option.map_none]
   ·simp only [VR, CR, zai]
    refine ⟨_, _, by rw [hlen], by rw [hlen]; omega, by omega, ?_⟩
    by_cases hc : cap = l.toNat
    ·left
     exact List.length_eq_zero_iff.1 (by rw [hlen]; omega)
    ·rw [if_neg hc]
     rcases k4 with rfl | ⟨b, o', rfl, k5, k6⟩
     ·left; simp
     ·right
      refine ⟨b, o' + l.toNat * sz, ?_, k5, (k6.take _).drop _⟩
      simp only [Option.map_some, Addr.add]
      split
      ·rename_i h0; rw [h0]; rfl
      ·rfl
  ·rename_i sz rows hx
   obtain ⟨n, hn, h⟩ := Option.bind_eq_some_iff.1 h
   obtain ⟨el, he, hs⟩ := Option.bind_eq_some_iff.1 hn
   obtain ⟨l, hl, h⟩ := Option.bind_eq_some_iff.1 h
   obtain ⟨u, hu, h⟩ := Option.bind_eq_some_iff.1 h
   simp only [Option.some.injEq, Prod.mk.injEq] at h
   obtain ⟨rfl, rfl⟩ := h
   obtain ⟨rfl, p1, p2, p3⟩ := hp
   have hun : P.underlying t = some (.slice el) := by unfold elT at he; split at he <;> simp_all
   refine zae.value fun n0 N g a w hR => ?_
   have hv := hR.get P t x
   rw [hx] at hv
   simp only [VR, CR, zai] at hv
   obtain ⟨ao, cap, k1, k2, k3, k4⟩ := hv
   have hb := zcg (low := low) (high := high) (len := rows.length) (cap := cap) hR true hl hu p1 p2 p3 k2
   have hlen : ((rows.take u.toNat).drop l.toNat).length = u.toNat - l.toNat := by simp; omega
   refine ⟨.slice (if cap = l.toNat then ao else ao.map (·.add (l.toNat * sz))) (u.toNat - l.toNat) (cap - l.toNat), ?_, ?_⟩
   ·unfold execOp
    simp only [ho]
    simp only [Instr.sliceAt, Instr.slice, Sem.run_bind, run_underlying hun, Result.andThen, k1, hb, zbo hs, Sem.run_pure, Option.map_none]
   ·simp only [VR, CR, zai]
    refine ⟨_, _, by rw [hlen], by rw [hlen]; omega, by omega, ?_⟩
    by_cases hc : cap = l.toNat
    ·left
     exact List.length_eq_zero_iff.1 (by rw [hlen]; omega)
    ·rw [if_neg hc]
     rcases k4 with rfl | ⟨b, o', rfl, k5, k6⟩
     ·left; simp
     ·right
      refine ⟨b, o' + l.toNat * sz, ?_, k5, (k6.take _).drop _⟩
      simp only [Option.map_some, Addr.add]
      split
      ·rename_i h0; rw [h0]; rfl
      ·rfl
  ·rename_i s hx
   obtain ⟨n, hn, h⟩ := Option.bind_eq_some_iff.1 h
   obtain ⟨el, he, hs⟩ := Option.bind_eq_some_iff.1 hn
   obtain ⟨l, hl, h⟩ := Option.bind_eq_some_iff.1 h
   obtain ⟨u, hu, h⟩ := Option.bind_eq_some_iff.1 h
   simp only [Option.some.injEq, Prod.mk.injEq] at h
   obtain ⟨rfl, rfl⟩ := h
   obtain ⟨p1, p2, p3⟩ := hp
   have hun : P.underlying t = some (.slice el) := by unfold elT at he; split at he <;> simp_all
   refine zae.value fun n0 N g a w hR => ?_
   have hv := hR.get P t x
   rw [hx] at hv
   have hv : a.eval x = .slice none 0 0 := hv
   have hb := zcg (low := low) (high := high) (len := 0) (cap := 0) hR true hl hu p1 p2 p3 (Nat.le_refl _)
   refine ⟨.slice none 0 0, ?_, rfl⟩
   unfold execOp
   simp only [ho]
   have h1 : l.toNat = 0 := by omega
   have h2 : u.toNat = 0 := by omega
   simp only [Instr.sliceAt, Instr.slice, Sem.run_bind, run_underlying hun, Result.andThen, hv, hb, zbo hs, Sem.run_pure, Option.map_none, h1, h2, if_true]
  ·cases h
 ·cases h
theorem zrh {o : Oper} {σ σ' : St} {p : Prop} (h : st P o σ = some (p, σ')) (hp : p) : zae P o σ σ' := by
 unfold st at h
 split at h
 ·unfold St.outV at h
  obtain ⟨x, hx, h⟩ := Option.map_eq_some_iff.1 h
  simp only [Prod.mk.injEq] at h
  obtain ⟨rfl, rfl⟩ := h
  exact znr hx hp
 ·exact znf h hp
end Go.Proofs.YtaaniggpnljckaaGreat
